/- Walk: Groups. -/
import Derived.Test.YtpfbichomgojoaaP14
namespace Go.Proofs.Ytpfbichomgojoaa
open Go.RowKit

theorem run_sliceH {P : Program} {t e : Nat} {z : Value} {size bytes : Nat} (T : SlT P t e z size bytes) (A : Option Addr) (n c j : Nat) (x : Int) (hx : x = (j : Int)) (hj : j ≤ c) (w : World) :
    (Instr.sliceAt t (.slice A n c) none (some (.int .i64 x)) none).run P w = .ok (.slice A j c) w := by
  subst hx
  obtain ⟨i, hi', _, h2, _⟩ := info_parts T.inf
  have e1 : (if c = 0 then A else A.map (·.add 0)) = A := by split <;> cases A <;> simp [Addr.add]
  have ht' : P.underlying t = some (.slice (P.elem t)) := by rw [elem_of T.und]; exact T.und
  have hr := run_slice_h w t A n c ht' .i64 (j : Int) (by omega) (by omega)
  rw [elem_of T.und] at hr
  rw [run_sliceAt_slice w t _ _ _ _ ht', hr]
  simp [sizeOf, typeInfo, hi', sliced, e1]

theorem run_op_sliceH {a : Act} {o : Oper} {x hi : Operand} {A : Option Addr} {n c j : Nat} {y : Int} (w : World) (ho : o.op = .slice 24 x none (some hi) none) (hx : a.eval x = .slice A n c) (hh : a.eval hi = .int .i64 y) (hy : y = (j : Int)) (hj : j ≤ c) :
    (execOp a.eval o).run Try.prog w = .ok (.value (.slice A j c)) w := by
  have hr2 := run_sliceH sl24 A n c j y hy hj w
  unfold execOp
  simp [ho, hx, hh, hr2]

/-- The groups, as the program makes them. -/
def grpG (n : Nat) (es : List Ed) (k : Nat) : List Nat := kruG n es ((treeP n es).take (n - k))

theorem kruG_inv (n : Nat) (es : List Ed) (l : List Nat) (hn : 0 < n) : (kruG n es l).length = n ∧ ∀ x ∈ kruG n es l, x < n := by
  have key : ∀ (l : List Nat) (s : List Nat × List Nat), s.1.length = n → (∀ x ∈ s.1, x < n) → (l.foldl (kruS es) s).1.length = n ∧ ∀ x ∈ (l.foldl (kruS es) s).1, x < n := by
    intro l
    induction l with
    | nil => intro s h1 h2; exact ⟨h1, h2⟩
    | cons k l ih =>
      intro s h1 h2
      refine ih _ ?_ ?_
      · unfold kruS; split
        · exact h1
        · rw [joinL_length]; exact h1
      · unfold kruS; split
        · exact h2
        · exact joinL_lt h2 hn _ _
  exact key l _ (by simp) (fun x hx => List.mem_range.1 hx)

set_option maxHeartbeats 1000000 in
theorem Groups_bad (n : Int) (A : Option Addr) (m c : Nat) (ss : List St) (k : Int) (w : World) (hs : RdS w A m ss) (hb : netB n ss = false) :
    Calls Try.prog 33 #[.int .i64 n, .slice A m c, .int .i64 k] w fun e w' => e = .returned (.tuple #[.slice none 0 0, .int .i64 0, .int .i64 2]) ∧ Below w.heap.size w w' := by
  have HN := Lib.hid (newNet_c n A m c ss w hs)
  rw [hb] at HN
  go_enter Try.func33, Try.ntmps33
  go_wp2_with fail
  refine HN.out.mono ?_
  rintro e w1 ⟨rfl, hb1⟩
  go_wp2
  go_ret3
  exact ⟨rfl, hb1.trans ((below_one' w1 _).mono hb1.size)⟩

set_option maxHeartbeats 1000000 in
theorem Groups_out (n : Nat) (A : Option Addr) (m c : Nat) (es : List Ed) (k : Int) (w : World) (he : RdE w A m es) (hnet : Net n es) (hb : inR k 1 (n : Int) = false) :
    Calls Try.prog 33 #[.int .i64 (n : Int), .slice A m c, .int .i64 k] w fun e w' => e = .returned (.tuple #[.slice none 0 0, .int .i64 0, .int .i64 2]) ∧ Below w.heap.size w w' := by
  have HN := Lib.hid (newNet_c n A m c _ w he)
  rw [net_yes hnet] at HN
  have hn16 := hnet.n16
  go_enter Try.func33, Try.ntmps33
  go_wp2_with fail
  refine HN.out.mono ?_
  rintro e w1 ⟨rfl, hb1⟩
  have hbA := below_one' w1 (.cells #[.int .i64 (n : Int), .slice A m c] 66)
  obtain ⟨hc0, hc1⟩ := two_cells w1 (.int .i64 (n : Int)) (.slice A m c) 66
  have hb2 := hb1.trans (hbA.mono hb1.size)
  have hz1 : (w1.alloc (.cells #[.int .i64 (n : Int), .slice A m c] 66)).heap.size = w1.heap.size + 1 := by simp
  go_wp2_with fail
  refine (within_c _ _ _ _).mono ?_
  rintro e w3 ⟨rfl, rfl⟩
  rw [hb]
  clear hb
  go_wp2
  go_ret3
  exact ⟨rfl, hb2⟩

set_option maxHeartbeats 1000000 in
theorem Groups_none (n : Nat) (A : Option Addr) (m c : Nat) (es : List Ed) (k : Int) (w : World) (he : RdE w A m es) (hnet : Net n es) (hb : inR k 1 (n : Int) = true) (hok : okP n es = false) :
    Calls Try.prog 33 #[.int .i64 (n : Int), .slice A m c, .int .i64 k] w fun e w' => e = .returned (.tuple #[.slice none 0 0, .int .i64 0, .int .i64 6]) ∧ Below w.heap.size w w' := by
  have HT0 : ∀ W, RdE W A m es → Calls Try.prog 40 #[.agg #[.int .i64 (n : Int), .slice A m c]] W fun e w' => ∃ A' c', e = .returned (.tuple #[.slice A' (treeP n es).length c', .bool (okP n es)]) ∧ OwnN w' W.heap.size A' (treeP n es).length c' (treeP n es) ∧ Below W.heap.size W w' := fun W h => tree_c n A m c es W h hnet.inN
  rw [hok] at HT0
  have HT := Lib.hid HT0
  clear HT0
  have HN := Lib.hid (newNet_c n A m c _ w he)
  rw [net_yes hnet] at HN
  have hn16 := hnet.n16
  go_enter Try.func33, Try.ntmps33
  go_wp2_with fail
  refine HN.out.mono ?_
  rintro e w1 ⟨rfl, hb1⟩
  have hbA := below_one' w1 (.cells #[.int .i64 (n : Int), .slice A m c] 66)
  obtain ⟨hc0, hc1⟩ := two_cells w1 (.int .i64 (n : Int)) (.slice A m c) 66
  have hb2 := hb1.trans (hbA.mono hb1.size)
  have hz1 : (w1.alloc (.cells #[.int .i64 (n : Int), .slice A m c] 66)).heap.size = w1.heap.size + 1 := by simp
  go_wp2_with fail
  refine (within_c _ _ _ _).mono ?_
  rintro e w3 ⟨rfl, rfl⟩
  rw [hb]
  clear hb
  go_wp2_with fail
  refine (HT.out _ (he.below hb2)).mono ?_
  rintro e w3 ⟨A3, c3, rfl, ho3, hb3⟩
  have hbb := hb2.trans (hb3.mono hb2.size)
  go_wp2
  go_ret3
  exact ⟨rfl, hbb⟩

set_option maxHeartbeats 4000000 in
set_option maxRecDepth 100000 in
theorem Groups_c (n : Nat) (A : Option Addr) (m c : Nat) (es : List Ed) (k : Nat) (w : World) (he : RdE w A m es) (hnet : Net n es) (hk1 : 1 ≤ k) (hkn : k ≤ n) (hok : okP n es = true) :
    Calls Try.prog 33 #[.int .i64 (n : Int), .slice A m c, .int .i64 (k : Int)] w fun e w' => ∃ A1 c1, e = .returned (.tuple #[.slice A1 n c1, .int .i64 (betwF es (grpG n es k)), .int .i64 0]) ∧ OwnN w' w.heap.size A1 n c1 (grpG n es k) ∧ Below w.heap.size w w' := by
  have hel := he.len
  have hm : m ≤ 60 := by have := hnet.len; omega
  have hN := hnet.inN
  have HT0 : ∀ W, RdE W A m es → Calls Try.prog 40 #[.agg #[.int .i64 (n : Int), .slice A m c]] W fun e w' => ∃ A' c', e = .returned (.tuple #[.slice A' (treeP n es).length c', .bool (okP n es)]) ∧ OwnN w' W.heap.size A' (treeP n es).length c' (treeP n es) ∧ Below W.heap.size W w' := fun W h => tree_c n A m c es W h hnet.inN
  rw [hok] at HT0
  have HT := Lib.hid HT0
  clear HT0
  have hL : (treeP n es).length + 1 = n := by unfold okP at hok; simpa using hok
  have hTm : ∀ x ∈ (treeP n es).take (n - k), x < m := fun x hx => by have := treeP_lt x (List.mem_of_mem_take hx); omega
  have HJ := Lib.hid (fun W A3 l c3 h h2 h3 => joined_c n A m c es A3 l c3 ((treeP n es).take (n - k)) W h hN h2 h3 hTm)
  have HGG := Lib.hid (show grpG n es k = kruG n es ((treeP n es).take (n - k)) from rfl)
  obtain ⟨hgl, hglt⟩ := kruG_inv n es ((treeP n es).take (n - k)) (by omega)
  unfold netV at HJ
  have HN := Lib.hid (newNet_c n A m c _ w he)
  rw [net_yes hnet] at HN
  have hn16 := hnet.n16
  go_enter Try.func33, Try.ntmps33
  go_wp2_with fail
  refine HN.out.mono ?_
  rintro e w1 ⟨rfl, hb1⟩
  have hbA := below_one' w1 (.cells #[.int .i64 (n : Int), .slice A m c] 66)
  obtain ⟨hc0, hc1⟩ := two_cells w1 (.int .i64 (n : Int)) (.slice A m c) 66
  have hb2 := hb1.trans (hbA.mono hb1.size)
  have hz1 : (w1.alloc (.cells #[.int .i64 (n : Int), .slice A m c] 66)).heap.size = w1.heap.size + 1 := by simp
  go_wp2_with fail
  refine (within_c _ _ _ _).mono ?_
  rintro e w3 ⟨rfl, rfl⟩
  have hin : inR (k : Int) 1 (n : Int) = true := by rw [inR_iff]; omega
  rw [hin]
  clear hin
  go_wp2_with fail
  refine (HT.out _ (he.below hb2)).mono ?_
  rintro e w3 ⟨A3, c3, rfl, ho3, hb3⟩
  have hbb := hb2.trans (hb3.mono hb2.size)
  have hs3 := hb3.size
  have hc03 := (hb3.cell (show w1.heap.size < _ by omega)).trans hc0
  have hc13 := (hb3.cell (show w1.heap.size < _ by omega)).trans hc1
  have he3 := he.below hbb
  have hcap := own_cap ho3
  have hr3 := ho3.rd.take (j := n - k) (by omega)
  have hw1 : wrap64 ((n : Int) - (k : Int)) = (n : Int) - (k : Int) := by unfold wrap64; omega
  have hw2 : IntKind.i64.wrap ((n : Int) - (k : Int)) = ((n - k : Nat) : Int) := by
    rw [IntKind.wrap_i64]; omega
  clear hb3 hb2 hbA hc0 hc1 HT HN
  have hEb := fun h => he.blk_lt h
  have hw1l : w.heap.size ≤ w1.heap.size := hb1.size
  generalize (treeP n es).take (n - k) = T at *
  generalize (treeP n es).length = L at *
  go_wp2
  refine wp_region_held_drew (S := fun w' => w'.cell? ⟨w1.heap.size, 0, none⟩ = some (.int .i64 (n : Int)) ∧ w'.cell? ⟨w1.heap.size, 1, none⟩ = some (.slice A m c)) (by kernel_rfl) ⟨hc03, hc13⟩ (fun hHeld => ?_)
  refine wpAnyH_take (i := 0) (oi := ⟨some 41, _, _, _, _, _⟩) (v := ?_) rfl (by kernel_rfl) (by kernel_rfl) (by kernel_rfl) (fun _ _ _ h => h) (Or.inl ⟨by rfl, fun w hSw => ?_⟩) (by assumption) ?_
  rotate_left
  · obtain ⟨hSa, hSb⟩ := hSw
    go_simp
    try with_reducible rfl
  try simp only [Act.put, List.setIfInBounds_toArray, List.set_cons_zero, List.set_cons_succ]
  refine wpAnyH_take (i := 1) (oi := ⟨some 42, _, _, _, _, _⟩) (v := ?_) rfl (by kernel_rfl) (by kernel_rfl) (by kernel_rfl) (fun _ _ _ h => h) (Or.inl ⟨by rfl, fun w hSw => ?_⟩) (by assumption) ?_
  rotate_left
  · go_simp
    try with_reducible rfl
  try simp only [Act.put, List.setIfInBounds_toArray, List.set_cons_zero, List.set_cons_succ]
  refine wpAnyH_take (i := 2) (oi := ⟨some 43, _, _, _, _, _⟩) (v := ?_) rfl (by kernel_rfl) (by kernel_rfl) (by kernel_rfl) (fun _ _ _ h => h) (Or.inl ⟨by rfl, fun w hSw => ?_⟩) (by assumption) ?_
  rotate_left
  · go_simp
    try with_reducible rfl
  try simp only [Act.put, List.setIfInBounds_toArray, List.set_cons_zero, List.set_cons_succ]
  refine wpAnyH_take (i := 3) (oi := ⟨some 44, _, _, _, _, _⟩) (v := ?_) rfl (by kernel_rfl) (by kernel_rfl) (by kernel_rfl) (fun _ _ _ h => h) (Or.inl ⟨by rfl, fun w hSw => ?_⟩) (by assumption) ?_
  rotate_left
  · go_simp
    try with_reducible rfl
  try simp only [Act.put, List.setIfInBounds_toArray, List.set_cons_zero, List.set_cons_succ]
  refine wpAnyH_take (i := 4) (oi := ⟨some 45, _, _, _, _, _⟩) (v := ?_) rfl (by kernel_rfl) (by kernel_rfl) (by kernel_rfl) (fun _ _ _ h => h) (Or.inl ⟨by rfl, fun w hSw => ?_⟩) (by assumption) ?_
  rotate_left
  · go_simp
    try with_reducible rfl
  try simp only [Act.put, List.setIfInBounds_toArray, List.set_cons_zero, List.set_cons_succ]
  refine wpAnyH_take (i := 5) (oi := ⟨some 46, _, _, _, _, _⟩) (v := .slice A3 (n - k) c3) rfl (by kernel_rfl) (by kernel_rfl) (by kernel_rfl) (fun _ _ _ h => h) (Or.inl ⟨by rfl, fun w hSw => ?_⟩) (by assumption) ?_
  · exact run_op_sliceH w rfl rfl rfl (by first | rfl | exact hw2) (by omega)
  try simp only [Act.put, List.setIfInBounds_toArray, List.set_cons_zero, List.set_cons_succ]
  refine wpAnyH_ready (rs := [6]) (by kernel_rfl) (by simp) (AllReadyH.cons (o := ⟨some 47, _, _, _, _, _⟩) rfl (fun K hK => ?_) AllReadyH.nil)
  go_simp
  refine (HJ.out _ A3 _ c3 (he3.below (below_q w3 1)) (hr3.below (below_q w3 1)) (by omega)).mono ?_
  rintro e w4 ⟨b4, ups, rfl, hp4, hR4, hb4, hpb4⟩
  have hb34 := (below_q w3 1).trans hb4
  have hc04 := Below.keeps hb34 _ _ hc03
  have hc14 := Below.keeps hb34 _ _ hc13
  refine hK.out _ _ ⟨hc04, hc14⟩ (fun hHeld => ?_)
  clear hK K
  try simp only [Act.put, List.setIfInBounds_toArray, List.set_cons_zero, List.set_cons_succ]
  refine wpAnyH_tail 7 (by kernel_rfl) (by kernel_rfl) (by kernel_rfl) (fun q => ⟨hc04, hc14⟩) ?_
  simp only [List.drop_succ_cons, List.drop_zero]
  repeat (go_big_quiet_step (fail))
  refine wpQuiet_nil ?_
  rintro w6 ⟨nq, rfl⟩
  have hp5 := hp4.below (below_q w4 nq)
  have hb5 := drewN_below (hbb.trans (hb34.mono hbb.size)) nq
  have he5 := he.below hb5
  have hpl : w.heap.size ≤ b4 := by
    have h0 : (w3.drewN 1).heap.size = w3.heap.size := rfl
    have := hbb.size; omega
  clear hp4 hHeld hc04 hc14 hb4 hpb4 hb34 hc03 hc13 he3 hr3 ho3 hbb hw1 hw2
  generalize w4.drewN nq = w5 at *
  have HR := Lib.hid hR4
  generalize hgE : kruG n es T = g at *
  have HGE := Lib.hid hgE
  clear hgE hR4
  go_wp2
  go_loopw [51, 14] (fun i s wr => ∃ (j : Nat) (A6 : Option Addr) (c6 : Nat), j ≤ n ∧ i = .int .i64 ((j : Nat) : Int) ∧ s = .slice A6 j c6 ∧ OwnN wr w5.heap.size A6 j c6 (g.take j) ∧ Below w5.heap.size w5 wr) (fun i _ _ => n - (intOf i).toNat)
  case atStart => exact ⟨0, none, 0, Nat.zero_le _, rfl, rfl, OwnN.none_ _ _, Below.refl _ _⟩
  case round =>
    obtain ⟨j, A6, c6, hj, rfl, rfl, ho6, hb6⟩ := hrel
    have hz6 := hb6.size
    by_cases hjn : j < n
    · have hof := of_c b4 ups j wr (hp5.below hb6) HR.out.1 (by omega)
      rw [HR.out.2.2 j hjn] at hof
      have hgt := Lib.hid (take_nat (xs := g) (k := j) (by omega))
      generalize nat_ g j = gj at *
      go_wp2_with fail
      refine hof.mono ?_
      rintro e w7 ⟨rfl, rfl⟩
      clear hof
      go_wp2_with ((with_reducible show Go.wpList _ _ _ ({ dst := some 59, op := _, type := _, pos := _, after := _, guard := _ } :: _) _ _); refine wpList_push_n (v := gj) ho6 rfl _ _ rfl rfl rfl (by omega) hz6 ?_; intro A7 c7 w7 ho7 hb7 hg7)
      refine ⟨⟨j + 1, A7, c7, by omega, by go_num, rfl, by rw [hgt.out]; exact ho7, hb6.trans hb7⟩, by simp [intOf]; omega⟩
    · obtain rfl : j = n := by omega
      rw [List.take_of_length_le (by omega)] at ho6
      have hb56 := hb5.trans (hb6.mono hb5.size)
      have he6 := he5.below hb6
      have hr6 := ho6.rd
      have ho6' := own_mono ho6 hb5.size
      clear ho6
      go_wp2
      go_loopw [63, 16] (fun i s w8 => ∃ (q : Nat) (B : Int), q ≤ m ∧ i = .int .i64 ((q : Nat) : Int) ∧ s = .int .i64 B ∧ B = (List.range q).foldl (betw es g) (-1) ∧ Below wr.heap.size wr w8) (fun i _ _ => m - (intOf i).toNat)
      case atStart => exact ⟨0, -1, Nat.zero_le _, rfl, rfl, rfl, Below.refl _ _⟩
      case round =>
        obtain ⟨q, B, hq, rfl, rfl, hB, hb8⟩ := hrel
        have hBd := betw_bd hnet g (List.range q) (-1) (by omega)
        rw [← hB] at hBd
        by_cases hqm : q < m
        · obtain ⟨b1, o1, hA, hb1l, ha1, hb1c, hw1⟩ := (he6.below hb8).at_ hqm
          obtain ⟨hea, heb, hew⟩ := hN.2.2 q (by omega)
          obtain ⟨hca, hcb, hcw⟩ := three_cells wr (.int .i64 (ed_ es q).a) (.int .i64 (ed_ es q).b) (.int .i64 (ew es q)) 42
          have hbA := below_one' wr (.cells #[.int .i64 (ed_ es q).a, .int .i64 (ed_ es q).b, .int .i64 (ew es q)] 42)
          have hF := Lib.hid (foldl_range (f := betw es g) (a := -1) (k := q))
          rw [← hB] at hF
          subst hA
          have hb9 := hb8.trans (hbA.mono hb8.size)
          obtain ⟨bg, og, hA6, _, hga⟩ := (hr6.below hb9).at_ hea
          obtain ⟨_, _, e, _, hgb⟩ := (hr6.below hb9).at_ heb
          subst hA6
          injection e with e; injection e with e1 e2; subst e1 e2
          have HBW := Lib.hid (show betw es g B q = if nat_ g (ed_ es q).a ≠ nat_ g (ed_ es q).b then minB B (ew es q) else B from rfl)
          clear hB
          go_wp2
          generalize wr.alloc (.cells #[.int .i64 (ed_ es q).a, .int .i64 (ed_ es q).b, .int .i64 (ew es q)] 42) = W at *
          have hwb : ((ew es q : Nat) : Int) ≤ 1000 := by omega
          by_cases hg : nat_ g (ed_ es q).a = nat_ g (ed_ es q).b
          · have hd : (((nat_ g (ed_ es q).a : Nat) : Int) != (nat_ g (ed_ es q).b : Nat)) = false := by simp [hg]
            have HM := Lib.hid (show betw es g B q = B by rw [HBW.out, if_neg (by simp [hg])])
            clear hg
            generalize nat_ g (ed_ es q).a = la at *
            generalize nat_ g (ed_ es q).b = lb at *
            go_quiet (fail)
            go_wp2
            exact ⟨⟨q + 1, B, by omega, by go_num, rfl, by rw [hF.out]; exact HM.out.symm, drewN_below hb9 _⟩, by simp [intOf]; omega⟩
          · have hd : (((nat_ g (ed_ es q).a : Nat) : Int) != (nat_ g (ed_ es q).b : Nat)) = true := by simp; omega
            have HM0 := Lib.hid (show betw es g B q = minB B (ew es q) by rw [HBW.out, if_pos hg])
            clear hg
            generalize nat_ g (ed_ es q).a = la at *
            generalize nat_ g (ed_ es q).b = lb at *
            by_cases hB0 : B < 0
            · have hd2 : decide (B < 0) = true := by simpa using hB0
              have HM := Lib.hid (show betw es g B q = (ew es q : Int) by rw [HM0.out]; unfold minB; rw [if_pos (.inl hB0)])
              go_quiet (fail)
              go_wp2
              exact ⟨⟨q + 1, _, by omega, by go_num, rfl, by rw [hF.out]; exact HM.out.symm, drewN_below hb9 _⟩, by simp [intOf]; omega⟩
            · have hd2 : decide (B < 0) = false := by simpa using hB0
              by_cases hlt : (ew es q : Int) < B
              · have hd3 : decide ((ew es q : Int) < B) = true := by simpa using hlt
                have HM := Lib.hid (show betw es g B q = (ew es q : Int) by rw [HM0.out]; unfold minB; rw [if_pos (.inr hlt)])
                go_quiet (fail)
                go_wp2
                exact ⟨⟨q + 1, _, by omega, by go_num, rfl, by rw [hF.out]; exact HM.out.symm, drewN_below hb9 _⟩, by simp [intOf]; omega⟩
              · have hd3 : decide ((ew es q : Int) < B) = false := by simpa using hlt
                have HM := Lib.hid (show betw es g B q = B by rw [HM0.out]; unfold minB; rw [if_neg (by omega)])
                go_quiet (fail)
                go_wp2
                exact ⟨⟨q + 1, B, by omega, by go_num, rfl, by rw [hF.out]; exact HM.out.symm, drewN_below hb9 _⟩, by simp [intOf]; omega⟩
        · obtain rfl : q = m := by omega
          have HFin := Lib.hid (show betwF es g = B by unfold betwF; rw [hel]; exact hB.symm)
          have hbe := hb56.trans (hb8.mono hb56.size)
          have ho9 := own_below ho6' hb8
          clear hB
          go_wp2
          go_ret3
          rw [HGG.out, HFin.out]
          exact ⟨_, _, rfl, ho9, hbe⟩

end Go.Proofs.Ytpfbichomgojoaa
