/- Walk: Second. -/
import Derived.Test.YtpfbichomgojoaaP12
namespace Go.Proofs.Ytpfbichomgojoaa
open Go.RowKit

set_option maxHeartbeats 1000000 in
theorem Second_bad (n : Int) (A : Option Addr) (m c : Nat) (ss : List St) (w : World) (hs : RdS w A m ss) (hb : netB n ss = false) :
    Calls Try.prog 15 #[.int .i64 n, .slice A m c] w fun e w' => e = .returned (.tuple #[.int .i64 0, .int .i64 2]) ∧ Below w.heap.size w w' := by
  have HN := Lib.hid (newNet_c n A m c ss w hs)
  rw [hb] at HN
  go_enter Try.func15, Try.ntmps15
  go_wp2_with fail
  refine HN.out.mono ?_
  rintro e w1 ⟨rfl, hb1⟩
  go_wp2
  go_ret2
  exact ⟨rfl, hb1.trans ((below_one' w1 _).mono hb1.size)⟩

set_option maxHeartbeats 1000000 in
theorem Second_none (n : Nat) (A : Option Addr) (m c : Nat) (es : List Ed) (w : World) (he : RdE w A m es) (hnet : Net n es) (hb : okP n es = false) :
    Calls Try.prog 15 #[.int .i64 (n : Int), .slice A m c] w fun e w' => e = .returned (.tuple #[.int .i64 0, .int .i64 6]) ∧ Below w.heap.size w w' := by
  have HS := Lib.hid (fun W h => slack_none n A m c es W h hnet.inN hb)
  have HN := Lib.hid (newNet_c n A m c _ w he)
  rw [net_yes hnet] at HN
  unfold netV at HS
  go_enter Try.func15, Try.ntmps15
  go_wp2_with fail
  refine HN.out.mono ?_
  rintro e w1 ⟨rfl, hb1⟩
  have hbA := below_one' w1 (.cells #[.int .i64 (n : Int), .slice A m c] 66)
  obtain ⟨hc0, hc1⟩ := two_cells w1 (.int .i64 (n : Int)) (.slice A m c) 66
  have hb2 := hb1.trans (hbA.mono hb1.size)
  have hz1 : (w1.alloc (.cells #[.int .i64 (n : Int), .slice A m c] 66)).heap.size = w1.heap.size + 1 := by simp
  go_wp2_with fail
  refine (HS.out _ (he.below hb2)).mono ?_
  rintro e w3 ⟨rfl, hb3⟩
  have hbb := hb2.trans (hb3.mono hb2.size)
  go_wp2
  go_ret2
  exact ⟨rfl, hbb⟩

theorem kruT_nodup {n : Nat} {es : List Ed} {l : List Nat} (h : l.Nodup) : (kruT n es l).Nodup := by
  have key : ∀ (l : List Nat) (s : List Nat × List Nat), l.Nodup → s.2.Nodup → (∀ x ∈ s.2, x ∉ l) → (l.foldl (kruS es) s).2.Nodup := by
    intro l
    induction l with
    | nil => intro s _ h _; exact h
    | cons x l ih =>
      intro s hl hs hd
      rw [List.nodup_cons] at hl
      rw [List.foldl_cons]
      refine ih _ hl.2 ?_ ?_
      · unfold kruS
        split
        · exact hs
        · rw [List.nodup_append]
          refine ⟨hs, by simp, ?_⟩
          intro y hy z hz e
          rw [List.mem_singleton] at hz
          subst hz e
          exact hd _ hy (List.mem_cons_self ..)
      · unfold kruS
        intro y hy
        split at hy
        · exact fun h => hd y hy (List.mem_cons_of_mem _ h)
        · rcases List.mem_append.1 hy with h | h
          · exact fun h' => hd y h (List.mem_cons_of_mem _ h')
          · rw [List.mem_singleton.1 h]; exact hl.1
  exact key l _ h List.nodup_nil (fun x hx => by simp at hx)
theorem nodup_of_bef {es : List Ed} {l : List Nat} (h : l.Pairwise (bef es)) : l.Nodup := h.imp (fun {a b} hb (e : a = b) => by subst e; exact bef_irr es a hb)
theorem treeP_nodup (n : Nat) (es : List Ed) : (treeP n es).Nodup := kruT_nodup (nodup_of_bef (ordL_sorted es))

set_option maxHeartbeats 1000000 in
set_option maxRecDepth 100000 in
theorem Second_all (n : Nat) (A : Option Addr) (m c : Nat) (es : List Ed) (w : World) (he : RdE w A m es) (hnet : Net n es) (hb : okP n es = true) (hall : (treeP n es).length = es.length) :
    Calls Try.prog 15 #[.int .i64 (n : Int), .slice A m c] w fun e w' => e = .returned (.tuple #[.int .i64 0, .int .i64 6]) ∧ Below w.heap.size w w' := by
  have HS := Lib.hid (fun W h => slack_c n A m c es W h hnet.inN hb)
  have hnd := treeP_nodup n es
  rw [he.len] at hall
  have HN := Lib.hid (newNet_c n A m c _ w he)
  rw [net_yes hnet] at HN
  unfold netV at HS
  go_enter Try.func15, Try.ntmps15
  go_wp2_with fail
  refine HN.out.mono ?_
  rintro e w1 ⟨rfl, hb1⟩
  have hbA := below_one' w1 (.cells #[.int .i64 (n : Int), .slice A m c] 66)
  obtain ⟨hc0, hc1⟩ := two_cells w1 (.int .i64 (n : Int)) (.slice A m c) 66
  have hb2 := hb1.trans (hbA.mono hb1.size)
  have hz1 : (w1.alloc (.cells #[.int .i64 (n : Int), .slice A m c] 66)).heap.size = w1.heap.size + 1 := by simp
  go_wp2_with fail
  refine (HS.out _ (he.below hb2)).mono ?_
  rintro e w3 ⟨A3, c3, b3, rfl, ho3, hm3, hbm, hb3⟩
  have hbb := hb2.trans (hb3.mono hb2.size)
  have hd : (((treeP n es).length : Int) == (m : Int)) = true := by rw [hall]; simp
  have hlr := hm3.len_run hnd 3
  go_wp2
  go_ret2
  exact ⟨rfl, hbb⟩

def morS (T : List Nat) (D : List Int) (best : Int) (k : Nat) : Int := if !decide (k ∈ T) then minB best (int_ D k) else best
def morP (n : Nat) (es : List Ed) : Int := (List.range es.length).foldl (morS (treeP n es) (slkP n es)) (-1)

theorem minB_abs {b d : Int} (hb : -1000 ≤ b ∧ b ≤ 1000) (hd : -1000 ≤ d ∧ d ≤ 1000) : -1000 ≤ minB b d ∧ minB b d ≤ 1000 := minB_bd' hb hd
theorem bd_set {D : List Int} {k : Nat} {d : Int} (h : ∀ x ∈ D, -1000 ≤ x ∧ x ≤ 1000) (hd : -1000 ≤ d ∧ d ≤ 1000) : ∀ x ∈ D.set k d, -1000 ≤ x ∧ x ≤ 1000 := by
  intro x hx
  rcases List.mem_or_eq_of_mem_set hx with h' | rfl
  · exact h x h'
  · exact hd
theorem bd_int {D : List Int} (h : ∀ x ∈ D, -1000 ≤ x ∧ x ≤ 1000) (k : Nat) : -1000 ≤ int_ D k ∧ int_ D k ≤ 1000 := by
  by_cases hk : k < D.length
  · exact h _ (int_mem hk)
  · unfold int_; rw [List.getD_eq_getElem?_getD, List.getElem?_eq_none (by omega)]; simp
theorem bd_low {D : List Int} {k : Nat} {d : Int} (h : ∀ x ∈ D, -1000 ≤ x ∧ x ≤ 1000) (hd : -1000 ≤ d ∧ d ≤ 1000) : ∀ x ∈ lowS D k d, -1000 ≤ x ∧ x ≤ 1000 := bd_set h (minB_abs (bd_int h k) hd)
theorem slkP_bd {n : Nat} {es : List Ed} (hnet : Net n es) : ∀ x ∈ slkP n es, -1000 ≤ x ∧ x ≤ 1000 := by
  have hi : ∀ (k : Nat) (J : List Nat) (D : List Int), (∀ x ∈ D, -1000 ≤ x ∧ x ≤ 1000) → ∀ x ∈ J.foldl (slkI es k) D, -1000 ≤ x ∧ x ≤ 1000 := by
    intro k J
    induction J with
    | nil => intro D h; exact h
    | cons o J ih =>
      intro D h
      have h1 := ew_le hnet o
      have h2 := ew_le hnet k
      exact ih _ (bd_low (bd_low h (by omega)) (by omega))
  have ho : ∀ (l : List Nat) (D : List Int), (∀ x ∈ D, -1000 ≤ x ∧ x ≤ 1000) → ∀ x ∈ l.foldl (slkO n es (treeP n es)) D, -1000 ≤ x ∧ x ≤ 1000 := by
    intro l
    induction l with
    | nil => intro D h; exact h
    | cons k l ih => intro D h; exact ih _ (hi k _ D h)
  refine ho _ _ ?_
  intro x hx
  rw [(List.mem_replicate.1 hx).2]; omega
theorem morS_bd {T : List Nat} {D : List Int} (h : ∀ x ∈ D, -1000 ≤ x ∧ x ≤ 1000) : ∀ (l : List Nat) (b : Int), (-1000 ≤ b ∧ b ≤ 1000) → -1000 ≤ l.foldl (morS T D) b ∧ l.foldl (morS T D) b ≤ 1000 := by
  intro l
  induction l with
  | nil => intro b hb; exact hb
  | cons k l ih =>
    intro b hb
    refine ih _ ?_
    unfold morS
    split
    · exact minB_abs hb (bd_int h k)
    · exact hb

set_option maxHeartbeats 2000000 in
set_option maxRecDepth 100000 in
theorem Second_c (n : Nat) (A : Option Addr) (m c : Nat) (es : List Ed) (w : World) (he : RdE w A m es) (hnet : Net n es) (hb : okP n es = true) (hall : (treeP n es).length ≠ es.length) :
    Calls Try.prog 15 #[.int .i64 (n : Int), .slice A m c] w fun e w' => e = .returned (.tuple #[.int .i64 ((wsum es (treeP n es) : Nat) + morP n es : Int), .int .i64 0]) ∧ Below w.heap.size w w' := by
  have hel := he.len
  have hm : m ≤ 60 := by have := hnet.len; omega
  have HS := Lib.hid (fun W h => slack_c n A m c es W h hnet.inN hb)
  have HT := Lib.hid (fun W h => tree_c n A m c es W h hnet.inN)
  have HW := Lib.hid (fun W h A3 l c3 h2 h3 h4 => weight_c n A m c es A3 l c3 (treeP n es) W h hnet.inN h2 h3 h4)
  have hTl := treeP_len n es
  have hTm : ∀ x ∈ treeP n es, x < m := fun x hx => by have := treeP_lt x hx; omega
  have hwb := wsum_bd hnet.inN (l := treeP n es) (fun x hx => treeP_lt x hx)
  have hnd := treeP_nodup n es
  have hDb := slkP_bd hnet
  have HM := Lib.hid (show morP n es = (List.range m).foldl (morS (treeP n es) (slkP n es)) (-1) by unfold morP; rw [hel])
  rw [hel] at hall
  unfold netV at HT HW
  have HN := Lib.hid (newNet_c n A m c _ w he)
  rw [net_yes hnet] at HN
  unfold netV at HS
  go_enter Try.func15, Try.ntmps15
  go_wp2_with fail
  refine HN.out.mono ?_
  rintro e w1 ⟨rfl, hb1⟩
  have hbA := below_one' w1 (.cells #[.int .i64 (n : Int), .slice A m c] 66)
  obtain ⟨hc0, hc1⟩ := two_cells w1 (.int .i64 (n : Int)) (.slice A m c) 66
  have hb2 := hb1.trans (hbA.mono hb1.size)
  have hz1 : (w1.alloc (.cells #[.int .i64 (n : Int), .slice A m c] 66)).heap.size = w1.heap.size + 1 := by simp
  go_wp2_with fail
  refine (HS.out _ (he.below hb2)).mono ?_
  rintro e w3 ⟨A3, c3, b3, rfl, ho3, hm3, hbm, hb3⟩
  have hbb := hb2.trans (hb3.mono hb2.size)
  have hd : (((treeP n es).length : Int) == (m : Int)) = false := by simp; omega
  have hr3 := ho3.rd
  have hc03 := (hb3.cell (show w1.heap.size < _ by omega)).trans hc0
  have hc13 := (hb3.cell (show w1.heap.size < _ by omega)).trans hc1
  have he3 := he.below hbb
  have hs3 := hb3.size
  clear hb3 hb2 hbA hc0 hc1 HS HN ho3
  have HTT : ∀ W, RdE W A m es → Calls Try.prog 40 #[.agg #[.int .i64 (n : Int), .slice A m c]] W fun e w' => ∃ A' c', e = .returned (.tuple #[.slice A' (treeP n es).length c', .bool (okP n es)]) ∧ OwnN w' W.heap.size A' (treeP n es).length c' (treeP n es) ∧ Below W.heap.size W w' := HT.out
  rw [hb] at HTT
  have HT2 := Lib.hid HTT
  clear HTT HT
  generalize hTE : treeP n es = T at *
  generalize slkP n es = D at *
  have HTE := Lib.hid hTE
  clear hTE
  have hlr := hm3.len_run hnd 3
  go_wp2
  clear hlr
  go_loopw [40, 10] (fun i s wr => ∃ (k : Nat) (B : Int), k ≤ m ∧ i = .int .i64 ((k : Nat) : Int) ∧ s = .int .i64 B ∧ B = (List.range k).foldl (morS T D) (-1) ∧ wr = w3) (fun i _ _ => m - (intOf i).toNat)
  case atStart => exact ⟨0, -1, Nat.zero_le _, rfl, rfl, rfl, rfl⟩
  case round =>
    obtain ⟨k, B, hk, rfl, rfl, hB, rfl⟩ := hrel
    have hBb := morS_bd (T := T) hDb (List.range k) (-1) (by omega)
    rw [← hB] at hBb
    have HB := Lib.hid hB
    clear hB
    by_cases hkm : k < m
    · obtain ⟨b1, o1, rfl, _, h1⟩ := hr3.at_ hkm
      have hF := Lib.hid (foldl_range (f := morS T D) (a := -1) (k := k))
      by_cases hT : k ∈ T
      · have hdT : decide (k ∈ T) = true := by simpa using hT
        have HMS := Lib.hid (show morS T D B k = B by unfold morS; rw [hdT]; rfl)
        clear hT
        go_wp2_with (at_lookup; refine wpList_look_b (T := T) ?_ rfl _ _ rfl rfl rfl (by omega) ?_; assumption)
        exact ⟨⟨k + 1, B, by omega, by go_num, rfl, by rw [hF.out, ← HB.out, HMS.out], trivial⟩, by simp [intOf]; omega⟩
      · have hdT : decide (k ∈ T) = false := by simpa using hT
        clear hT
        by_cases hB0 : B < 0
        · have hd2 : decide (B < 0) = true := by simpa using hB0
          have HMS := Lib.hid (show morS T D B k = int_ D k by unfold morS minB; rw [hdT, if_pos (show (!false) = true from rfl), if_pos (.inl hB0)])
          go_wp2_with (at_lookup; refine wpList_look_b (T := T) ?_ rfl _ _ rfl rfl rfl (by omega) ?_; assumption)
          exact ⟨⟨k + 1, _, by omega, by go_num, rfl, by rw [hF.out, ← HB.out, HMS.out], trivial⟩, by simp [intOf]; omega⟩
        · have hd2 : decide (B < 0) = false := by simpa using hB0
          by_cases hlt : int_ D k < B
          · have hd3 : decide (int_ D k < B) = true := by simpa using hlt
            have HMS := Lib.hid (show morS T D B k = int_ D k by unfold morS minB; rw [hdT, if_pos (show (!false) = true from rfl), if_pos (.inr hlt)])
            go_wp2_with (at_lookup; refine wpList_look_b (T := T) ?_ rfl _ _ rfl rfl rfl (by omega) ?_; assumption)
            exact ⟨⟨k + 1, _, by omega, by go_num, rfl, by rw [hF.out, ← HB.out, HMS.out], trivial⟩, by simp [intOf]; omega⟩
          · have hd3 : decide (int_ D k < B) = false := by simpa using hlt
            have HMS := Lib.hid (show morS T D B k = B by unfold morS minB; rw [hdT, if_pos (show (!false) = true from rfl), if_neg (by omega)])
            go_wp2_with (at_lookup; refine wpList_look_b (T := T) ?_ rfl _ _ rfl rfl rfl (by omega) ?_; assumption)
            exact ⟨⟨k + 1, B, by omega, by go_num, rfl, by rw [hF.out, ← HB.out, HMS.out], trivial⟩, by simp [intOf]; omega⟩
    · obtain rfl : k = m := by omega
      go_wp2_with fail
      refine (HT2.out wr he3).mono ?_
      rintro e w5 ⟨A5, c5, rfl, ho5, hb5⟩
      have hc05 := (hb5.cell (show w1.heap.size < _ by omega)).trans hc03
      have hc15 := (hb5.cell (show w1.heap.size < _ by omega)).trans hc13
      have hb35 := hbb.trans (hb5.mono hbb.size)
      go_wp2_with fail
      refine (HW.out w5 (he3.below hb5) A5 _ c5 ho5.rd (by omega) hTm).mono ?_
      rintro e w6 ⟨rfl, hb6⟩
      have hb36 := hb35.trans (hb6.mono hb35.size)
      have hwb2 : wsum es T ≤ 60000 := Nat.le_trans hwb (by omega)
      generalize hS2 : wsum es T = S at *
      have HS2 := Lib.hid hS2
      clear hS2
      clear hwb
      go_wp2
      go_ret2
      rw [HTE.out, HS2.out, HM.out, ← HB.out]
      exact ⟨rfl, hb36⟩

end Go.Proofs.Ytpfbichomgojoaa
