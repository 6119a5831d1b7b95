/- Walks of the reference: Second, Groups. -/
import Derived.Test.YtpfbichomgojoaaW3
namespace Go.Proofs.Ytpfbichomgojoaa
open Go.RowKit

theorem has_n (A : Option Addr) (n c : Nat) (xs : List Nat) (x : Nat) (w : World) (hx : RdN w A n xs) (hn : n ≤ 100000) :
    Calls Try.prog 51 #[.slice A n c, .int .i64 (x : Int)] w fun e w' => e = .returned (.bool (hasN xs x)) ∧ w = w' := has_c A n c (natI xs) x w (RdI.of_n hx) hn
theorem RTree_n (n : Nat) (A : Option Addr) (m c : Nat) (es : List Ed) (Ao : Option Addr) (mo co : Nat) (xs : List Nat) (w : World) (he : RdE w A m es) (ho : RdN w Ao mo xs) (hnet : Net n es) (hmo : mo ≤ 1000) :
    Calls Try.prog 28 #[.int .i64 (n : Int), .slice A m c, .slice Ao mo co] w fun e w' => e = .returned (.bool (isTreeN n es xs)) ∧ Below w.heap.size w w' := RTree_c n A m c es Ao mo co (natI xs) w he (RdI.of_n ho) hnet hmo

set_option maxHeartbeats 1000000 in
theorem RSecond_c (n : Nat) (A : Option Addr) (m c : Nat) (es : List Ed) (w : World) (he : RdE w A m es) (hnet : Net n es) :
    Calls Try.prog 23 #[.int .i64 (n : Int), .slice A m c] w fun e w' => e = .returned (.tuple #[.int .i64 ((secN n es : Nat) : Int), .bool (decide (secN n es < farN))]) ∧ Below w.heap.size w w' := by
  have hm : m ≤ 60 := by have := hnet.len; rw [he.len] at this; exact this
  have hn16 := hnet.n16
  have hle : (firstL n es).length ≤ m := by rw [← he.len]; exact takL_length_le n es _
  have hlt : ∀ x ∈ firstL n es, x < m := by intro x hx; rw [← he.len]; exact takL_lt x hx
  have HS := Lib.hid (show secN n es = if firstOk n es then (List.range m).foldl (secO n es (firstL n es)) farN else farN by unfold secN; rw [he.len])
  go_enter Try.func23, Try.ntmps23
  go_wp2_with fail
  refine (First_c n A m c es w he hnet).mono ?_
  rintro e w1 ⟨A1, c1, rfl, ho1, hb1⟩
  have hT := ho1.rd
  have he1 := he.below hb1
  clear ho1 he
  generalize firstL n es = T at *
  cases hok : firstOk n es
  · have HO := Lib.hid hok
    clear hok
    go_wp2
    refine wp_loop_rounds 1 ?_
    rw [rounds_succ]
    go_wp2
    all_goals go_ret2
    all_goals exact ⟨by rw [HS.out, if_neg (by rw [HO.out]; simp)]; simp [farN], hb1⟩
  · have HO := Lib.hid hok
    clear hok
    go_wp2
    go_loopw [8, 9] (fun b i wr => ∃ k : Nat, k ≤ m ∧ i = .int .i64 ((k : Nat) : Int) ∧ b = .int .i64 (((List.range k).foldl (secO n es T) farN : Nat) : Int) ∧ Below w1.heap.size w1 wr) (fun _ i _ => m - (intOf i).toNat)
    case atStart => exact ⟨0, Nat.zero_le _, rfl, rfl, Below.refl _ _⟩
    case round =>
      obtain ⟨k, hk, rfl, rfl, hbe⟩ := hrel
      by_cases hkm : k < m
      · have HF := Lib.hid (foldl_range (f := secO n es T) (a := farN) (k := k))
        generalize (List.range k).foldl (secO n es T) farN = B0 at *
        go_wp2
        obtain ⟨wo, rfl⟩ : ∃ wo : World, wo = wr := ⟨_, rfl⟩
        go_loopw [8, 10] (fun b i wr => ∃ j : Nat, j ≤ T.length ∧ i = .int .i64 ((j : Nat) : Int) ∧ b = .int .i64 (((T.take j).foldl (secI n es T k) B0 : Nat) : Int) ∧ Below w1.heap.size w1 wr) (fun _ i _ => T.length - (intOf i).toNat)
        case atStart => exact ⟨0, Nat.zero_le _, rfl, rfl, hbe⟩
        case round =>
          clear hbe
          obtain ⟨j, hj, rfl, rfl, hbe⟩ := hrel
          by_cases hjT : j < T.length
          · have HI := Lib.hid (foldl_take_nat (f := secI n es T k) (a := B0) hjT)
            generalize (T.take j).foldl (secI n es T k) B0 = B1 at *
            have hx := hlt _ (nat_mem hjT)
            obtain ⟨b1, o1, rfl, _, h1⟩ := (hT.below hbe).at_ hjT
            generalize nat_ T j = x at *
            have hsl := swL_length T x k
            have hsm : ∀ y ∈ swL T x k, y < m := fun y hy => by
              rcases mem_swL hy with h | h
              · omega
              · exact hlt y h
            have HX := Lib.hid (show secI n es T k B1 x = if !hasN T k && isTreeN n es (swL T x k) then min B1 (wsum es (swL T x k)) else B1 from rfl)
            go_wp2_with fail
            refine (Swapped_c (some ⟨b1, o1, none⟩) T.length c1 T x k wr (hT.below hbe) (by omega)).mono ?_
            rintro e w2 ⟨A2, c2, rfl, ho2, hb2⟩
            generalize swL T x k = S at hsl hsm HX ho2 ⊢
            have hbe2 := hbe.trans (hb2.mono hbe.size)
            have hS2 := ho2.rd
            clear ho2 hb2 hbe h1
            go_wp2_with fail
            refine (has_n (some ⟨b1, o1, none⟩) T.length c1 T k w2 (hT.below hbe2) (by omega)).mono ?_
            rintro e w3 ⟨rfl, rfl⟩
            cases hh : hasN T k
            · have HH := Lib.hid hh
              clear hh
              go_wp2_with fail
              refine (RTree_n n A m c es A2 S.length c2 S w2 (he1.below hbe2) hS2 hnet (by omega)).mono ?_
              rintro e w3 ⟨rfl, hb3⟩
              have hbe3 := hbe2.trans (hb3.mono hbe2.size)
              cases ht : isTreeN n es S
              · have HT := Lib.hid ht
                clear ht
                go_wp2
                exact ⟨⟨j + 1, by omega, by go_num, by rw [HI.out, HX.out, HH.out, HT.out]; rfl, hbe3⟩, by simp [intOf]; omega⟩
              · have HT := Lib.hid ht
                clear ht
                go_wp2_with fail
                refine (Weight_c n A m c es A2 S.length c2 S w3 (he1.below hbe3) (hS2.below hb3) hnet (by omega) hsm).mono ?_
                rintro e w4 ⟨rfl, rfl⟩
                generalize wsum es S = W at *
                go_wp2
                exact ⟨⟨j + 1, by omega, by go_num, by rw [HI.out, HX.out, HH.out, HT.out, ite_min]; rfl, hbe3⟩, by simp [intOf]; omega⟩
            · have HH := Lib.hid hh
              clear hh
              go_wp2
              exact ⟨⟨j + 1, by omega, by go_num, by rw [HI.out, HX.out, HH.out]; rfl, hbe2⟩, by simp [intOf]; omega⟩
          · obtain rfl : j = T.length := by omega
            rw [List.take_length]
            have HO2 := Lib.hid (show secO n es T B0 k = T.foldl (secI n es T k) B0 from rfl)
            generalize T.foldl (secI n es T k) B0 = B2 at *
            go_wp2
            exact ⟨⟨k + 1, by omega, by go_num, by rw [HF.out, HO2.out], hbe⟩, by simp [intOf]; omega⟩
      · obtain rfl : k = m := by omega
        have HSN := HS.out
        rw [if_pos HO.out] at HSN
        have HN := Lib.hid HSN
        clear HSN
        generalize (List.range k).foldl (secO n es T) farN = B0 at *
        have hbb := hb1.trans (hbe.mono hb1.size)
        by_cases hB : B0 < farN
        · have hB' : (B0 : Int) < 1099511627776 := by simp only [farN] at hB; omega
          have HB := Lib.hid hB
          clear hB
          go_wp2
          go_ret2
          exact ⟨by rw [HN.out, decide_eq_true HB.out]; rfl, hbb⟩
        · have hB' : ¬ (B0 : Int) < 1099511627776 := by simp only [farN] at hB; omega
          have HB := Lib.hid hB
          clear hB
          go_wp2
          go_ret2
          exact ⟨by rw [HN.out, decide_eq_false HB.out]; rfl, hbb⟩


set_option maxHeartbeats 1000000 in
theorem RGroups_c (n : Nat) (A : Option Addr) (m c : Nat) (es : List Ed) (k : Nat) (w : World) (he : RdE w A m es) (hnet : Net n es) (hk1 : 1 ≤ k) (hkn : k ≤ n) :
    Calls Try.prog 38 #[.int .i64 (n : Int), .slice A m c, .int .i64 (k : Int)] w fun e w' => ∃ A1 c1, e = .returned (.tuple #[.slice A1 n c1, .int .i64 (betwF es (rgrpG n es k))]) ∧
      OwnN w' w.heap.size A1 n c1 (rgrpG n es k) ∧ Below w.heap.size w w' := by
  have hm : m ≤ 60 := by have := hnet.len; rw [he.len] at this; exact this
  have hn16 := hnet.n16
  have hle : (firstL n es).length ≤ m := by rw [← he.len]; exact takL_length_le n es _
  have HK := Lib.hid (show keepL n es k = keepGo (firstL n es) (n - k) (ordL es) [] from rfl)
  go_enter Try.func38, Try.ntmps38
  go_wp2_with fail
  refine (First_c n A m c es w he hnet).mono ?_
  rintro e w1 ⟨A1, c1, rfl, ho1, hb1⟩
  go_wp2_with fail
  refine (Order_c A m c es w1 (he.below hb1) (by omega)).mono ?_
  rintro e w2 ⟨A2, c2, rfl, ho2, hb2⟩
  have hT := ho1.rd.below hb2
  have ho3 := ho2.rd
  have hbb := hb1.trans (hb2.mono hb1.size)
  clear ho1 ho2 hb1 hb2
  generalize firstL n es = T at *
  go_wp2
  go_loopw [11, 12] (fun s i wr => ∃ i0 AX cX X, i0 ≤ m ∧ i = .int .i64 ((i0 : Nat) : Int) ∧ s = .slice AX X.length cX ∧ OwnN wr w2.heap.size AX X.length cX X ∧ X.length ≤ i0 ∧ (∀ x ∈ X, x < m) ∧ keepGo T (n - k) ((ordL es).drop i0) X = keepL n es k ∧ Below w2.heap.size w2 wr) (fun _ i _ => m - (intOf i).toNat)
  case atStart => exact ⟨0, none, 0, [], Nat.zero_le _, rfl, rfl, OwnN.none_ _ _, Nat.zero_le _, fun x h => absurd h (by simp), by rw [HK.out]; rfl, Below.refl _ _⟩
  case round =>
    obtain ⟨i0, AX, cX, X, hi0, rfl, rfl, hoX, hXl, hXm, hgo, hbe⟩ := hrel
    by_cases him : i0 < m
    · have hil : i0 < (ordL es).length := by rw [ho3.1]; exact him
      rw [drop_nat hil] at hgo
      have hp : nat_ (ordL es) i0 < m := by have := (ordL_mem es _).1 (nat_mem hil); rw [he.len] at this; exact this
      obtain ⟨b1, o1, rfl, hb1, h1⟩ := (ho3.below hbe).at_ him
      generalize nat_ (ordL es) i0 = p at *
      have HGO := Lib.hid hgo
      clear hgo
      by_cases hlen : X.length < n - k
      · have hlen' : (X.length : Int) < (n : Int) - (k : Int) := by omega
        have HG2 := Lib.hid (show keepGo T (n - k) (p :: (ordL es).drop (i0 + 1)) X = keepGo T (n - k) ((ordL es).drop (i0 + 1)) (if hasN T p then X ++ [p] else X) by rw [keepGo, if_pos hlen])
        go_wp2_with fail
        refine (has_n A1 T.length c1 T p wr (hT.below hbe) (by omega)).mono ?_
        rintro e w3 ⟨rfl, rfl⟩
        have hz := hbe.size
        cases hh : hasN T p
        · have HH := Lib.hid hh
          clear hh
          go_wp2
          exact ⟨⟨i0 + 1, AX, cX, X, by omega, by go_num, rfl, hoX, by omega, hXm, by rw [← HGO.out, HG2.out, HH.out]; rfl, hbe⟩, by simp [intOf]; omega⟩
        · have HH := Lib.hid hh
          clear hh
          go_wp2_with ((with_reducible show Go.wpList _ _ _ ({ dst := some 51, op := _, type := _, pos := _, after := _, guard := _ } :: _) _ _); refine wpList_push_n (v := p) hoX rfl _ _ rfl rfl rfl (by omega) hz ?_; intro A5 c5 w5 ho5 hb5 hg5)
          exact ⟨⟨i0 + 1, A5, c5, X ++ [p], by omega, by go_num, by simp, by simpa using ho5, by simp; omega, fun x hx => by
            rcases List.mem_append.1 hx with h | h
            · exact hXm x h
            · have := List.mem_singleton.1 h; omega, by rw [← HGO.out, HG2.out, HH.out]; rfl, hbe.trans hb5⟩, by simp [intOf]; omega⟩
      · have hlen' : ¬ (X.length : Int) < (n : Int) - (k : Int) := by omega
        clear h1 hb1
        have HKK := Lib.hid (show keepL n es k = X by rw [← HGO.out, keepGo, if_neg hlen])
        have hbk := hbb.trans (hbe.mono hbb.size)
        have hrX := hoX.rd
        clear hoX HGO hbb
        go_wp2_with fail
        refine (Taken_c n A m c es AX X.length cX X wr (he.below hbk) hrX hnet (by omega) hXm).mono ?_
        rintro e w4 ⟨A4, c4, A5, c5, rfl, ho4, ho5, hb4⟩
        have hbk4 := hbk.trans (hb4.mono hbk.size)
        have hG4 := ho5.rd
        have ho5' := own_mono ho5 hbk.size
        have hgn : ∀ x ∈ takG n es X, x < n := (takF_inv n es X (by omega)).2.1
        have HGG := Lib.hid (show rgrpG n es k = takG n es X by unfold rgrpG; rw [HKK.out])
        clear ho4 ho5 hb4 hbe hT ho3 hrX
        generalize takG n es X = G at *
        go_wp2
        go_loopw [15, 16] (fun b i wr => ∃ (i0 : Nat) (B : Int), i0 ≤ m ∧ i = .int .i64 ((i0 : Nat) : Int) ∧ b = .int .i64 B ∧ B = (List.range i0).foldl (betw es G) (-1) ∧ Below w4.heap.size w4 wr) (fun _ i _ => m - (intOf i).toNat)
        case atStart => exact ⟨0, -1, Nat.zero_le _, rfl, rfl, rfl, Below.refl _ _⟩
        case round =>
          obtain ⟨i0, B, hi0, rfl, rfl, hB, hbq⟩ := hrel
          have hBd := betw_bd hnet G (List.range i0) (-1) (by omega)
          rw [← hB] at hBd
          have HB := Lib.hid hB
          clear hB
          by_cases him : i0 < m
          · have hpe := hnet.ends _ (ed_mem (by rw [he.len]; exact him))
            have hwb := ew_le hnet i0
            obtain ⟨b2, o2, rfl, _, h2, h3, h4⟩ := ((he.below hbk4).below hbq).at_ him
            obtain ⟨b3, o3, rfl, _, h5⟩ := (hG4.below hbq).at_ hpe.1
            obtain ⟨_, _, e, _, h6⟩ := (hG4.below hbq).at_ hpe.2.1
            injection e with e; injection e with e1 e2; subst e1 e2
            have HF := Lib.hid (foldl_range (f := betw es G) (a := -1) (k := i0))
            have HW := Lib.hid (show betw es G B i0 = if nat_ G (ed_ es i0).a ≠ nat_ G (ed_ es i0).b then minB B (ew es i0) else B from rfl)
            generalize (List.range i0).foldl (betw es G) (-1) = B' at *
            by_cases hab : nat_ G (ed_ es i0).a = nat_ G (ed_ es i0).b
            · have hd : (((nat_ G (ed_ es i0).a : Nat) : Int) != ((nat_ G (ed_ es i0).b : Nat) : Int)) = false := by simp [hab]
              have HAB := Lib.hid hab
              clear hab
              go_wp2
              go_quiet (fail)
              go_wp2
              exact ⟨⟨i0 + 1, B, by omega, by go_num, rfl, by rw [HF.out, ← HB.out, HW.out, if_neg (by simp [HAB.out])], drewN_below hbq _⟩, by simp [intOf]; omega⟩
            · have hd : (((nat_ G (ed_ es i0).a : Nat) : Int) != ((nat_ G (ed_ es i0).b : Nat) : Int)) = true := by simp; omega
              have HAB := Lib.hid hab
              clear hab
              by_cases hB0 : B < 0
              · have hd2 : decide (B < 0) = true := by simpa using hB0
                have HB0 := Lib.hid (show minB B (ew es i0) = ew es i0 by unfold minB; rw [if_pos (.inl hB0)])
                go_wp2
                go_quiet (fail)
                go_wp2
                exact ⟨⟨i0 + 1, _, by omega, by go_num, rfl, by rw [HF.out, ← HB.out, HW.out, if_pos HAB.out, HB0.out], drewN_below hbq _⟩, by simp [intOf]; omega⟩
              · have hd2 : decide (B < 0) = false := by simpa using hB0
                by_cases hwB : ((ew es i0 : Nat) : Int) < B
                · have hd3 : decide (((ew es i0 : Nat) : Int) < B) = true := by simpa using hwB
                  have HB0 := Lib.hid (show minB B (ew es i0) = ew es i0 by unfold minB; rw [if_pos (.inr hwB)])
                  go_wp2
                  go_quiet (fail)
                  go_wp2
                  exact ⟨⟨i0 + 1, _, by omega, by go_num, rfl, by rw [HF.out, ← HB.out, HW.out, if_pos HAB.out, HB0.out], drewN_below hbq _⟩, by simp [intOf]; omega⟩
                · have hd3 : decide (((ew es i0 : Nat) : Int) < B) = false := by simpa using hwB
                  have HB0 := Lib.hid (show minB B (ew es i0) = B by unfold minB; rw [if_neg (by omega)])
                  go_wp2
                  go_quiet (fail)
                  go_wp2
                  exact ⟨⟨i0 + 1, B, by omega, by go_num, rfl, by rw [HF.out, ← HB.out, HW.out, if_pos HAB.out, HB0.out], drewN_below hbq _⟩, by simp [intOf]; omega⟩
          · obtain rfl : i0 = m := by omega
            have HFin := Lib.hid (show betwF es (rgrpG n es k) = B by unfold betwF; rw [HGG.out, he.len]; exact HB.out.symm)
            have ho5'' := own_below ho5' hbq
            go_wp2
            go_ret2
            exact ⟨_, _, ret_two rfl (by rw [HFin.out]; rfl), by rw [HGG.out]; exact ho5'', hbk4.trans (hbq.mono hbk4.size)⟩
    · obtain rfl : m = i0 := by omega
      have HGO := Lib.hid hgo
      clear hgo
      have HKK := Lib.hid (show keepL n es k = X by rw [← HGO.out, List.drop_of_length_le (by rw [ho3.1]; exact Nat.le_refl _)]; rfl)
      have hbk := hbb.trans (hbe.mono hbb.size)
      have hrX := hoX.rd
      clear hoX HGO hbb
      go_wp2_with fail
      refine (Taken_c n A m c es AX X.length cX X wr (he.below hbk) hrX hnet (by omega) hXm).mono ?_
      rintro e w4 ⟨A4, c4, A5, c5, rfl, ho4, ho5, hb4⟩
      have hbk4 := hbk.trans (hb4.mono hbk.size)
      have hG4 := ho5.rd
      have ho5' := own_mono ho5 hbk.size
      have hgn : ∀ x ∈ takG n es X, x < n := (takF_inv n es X (by omega)).2.1
      have HGG := Lib.hid (show rgrpG n es k = takG n es X by unfold rgrpG; rw [HKK.out])
      clear ho4 ho5 hb4 hbe hT ho3 hrX
      generalize takG n es X = G at *
      go_wp2
      go_loopw [15, 16] (fun b i wr => ∃ (i0 : Nat) (B : Int), i0 ≤ m ∧ i = .int .i64 ((i0 : Nat) : Int) ∧ b = .int .i64 B ∧ B = (List.range i0).foldl (betw es G) (-1) ∧ Below w4.heap.size w4 wr) (fun _ i _ => m - (intOf i).toNat)
      case atStart => exact ⟨0, -1, Nat.zero_le _, rfl, rfl, rfl, Below.refl _ _⟩
      case round =>
        obtain ⟨i0, B, hi0, rfl, rfl, hB, hbq⟩ := hrel
        have hBd := betw_bd hnet G (List.range i0) (-1) (by omega)
        rw [← hB] at hBd
        have HB := Lib.hid hB
        clear hB
        by_cases him : i0 < m
        · have hpe := hnet.ends _ (ed_mem (by rw [he.len]; exact him))
          have hwb := ew_le hnet i0
          obtain ⟨b2, o2, rfl, _, h2, h3, h4⟩ := ((he.below hbk4).below hbq).at_ him
          obtain ⟨b3, o3, rfl, _, h5⟩ := (hG4.below hbq).at_ hpe.1
          obtain ⟨_, _, e, _, h6⟩ := (hG4.below hbq).at_ hpe.2.1
          injection e with e; injection e with e1 e2; subst e1 e2
          have HF := Lib.hid (foldl_range (f := betw es G) (a := -1) (k := i0))
          have HW := Lib.hid (show betw es G B i0 = if nat_ G (ed_ es i0).a ≠ nat_ G (ed_ es i0).b then minB B (ew es i0) else B from rfl)
          generalize (List.range i0).foldl (betw es G) (-1) = B' at *
          by_cases hab : nat_ G (ed_ es i0).a = nat_ G (ed_ es i0).b
          · have hd : (((nat_ G (ed_ es i0).a : Nat) : Int) != ((nat_ G (ed_ es i0).b : Nat) : Int)) = false := by simp [hab]
            have HAB := Lib.hid hab
            clear hab
            go_wp2
            go_quiet (fail)
            go_wp2
            exact ⟨⟨i0 + 1, B, by omega, by go_num, rfl, by rw [HF.out, ← HB.out, HW.out, if_neg (by simp [HAB.out])], drewN_below hbq _⟩, by simp [intOf]; omega⟩
          · have hd : (((nat_ G (ed_ es i0).a : Nat) : Int) != ((nat_ G (ed_ es i0).b : Nat) : Int)) = true := by simp; omega
            have HAB := Lib.hid hab
            clear hab
            by_cases hB0 : B < 0
            · have hd2 : decide (B < 0) = true := by simpa using hB0
              have HB0 := Lib.hid (show minB B (ew es i0) = ew es i0 by unfold minB; rw [if_pos (.inl hB0)])
              go_wp2
              go_quiet (fail)
              go_wp2
              exact ⟨⟨i0 + 1, _, by omega, by go_num, rfl, by rw [HF.out, ← HB.out, HW.out, if_pos HAB.out, HB0.out], drewN_below hbq _⟩, by simp [intOf]; omega⟩
            · have hd2 : decide (B < 0) = false := by simpa using hB0
              by_cases hwB : ((ew es i0 : Nat) : Int) < B
              · have hd3 : decide (((ew es i0 : Nat) : Int) < B) = true := by simpa using hwB
                have HB0 := Lib.hid (show minB B (ew es i0) = ew es i0 by unfold minB; rw [if_pos (.inr hwB)])
                go_wp2
                go_quiet (fail)
                go_wp2
                exact ⟨⟨i0 + 1, _, by omega, by go_num, rfl, by rw [HF.out, ← HB.out, HW.out, if_pos HAB.out, HB0.out], drewN_below hbq _⟩, by simp [intOf]; omega⟩
              · have hd3 : decide (((ew es i0 : Nat) : Int) < B) = false := by simpa using hwB
                have HB0 := Lib.hid (show minB B (ew es i0) = B by unfold minB; rw [if_neg (by omega)])
                go_wp2
                go_quiet (fail)
                go_wp2
                exact ⟨⟨i0 + 1, B, by omega, by go_num, rfl, by rw [HF.out, ← HB.out, HW.out, if_pos HAB.out, HB0.out], drewN_below hbq _⟩, by simp [intOf]; omega⟩
        · obtain rfl : i0 = m := by omega
          have HFin := Lib.hid (show betwF es (rgrpG n es k) = B by unfold betwF; rw [HGG.out, he.len]; exact HB.out.symm)
          have ho5'' := own_below ho5' hbq
          go_wp2
          go_ret2
          exact ⟨_, _, ret_two rfl (by rw [HFin.out]; rfl), by rw [HGG.out]; exact ho5'', hbk4.trans (hbq.mono hbk4.size)⟩

end Go.Proofs.Ytpfbichomgojoaa
