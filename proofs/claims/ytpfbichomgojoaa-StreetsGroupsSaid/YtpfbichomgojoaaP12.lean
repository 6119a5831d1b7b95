/- Walks: Slack, Critical. -/
import Derived.Test.YtpfbichomgojoaaP11
namespace Go.Proofs.Ytpfbichomgojoaa
open Go.RowKit

set_option maxHeartbeats 1000000 in
theorem Slack_bad (n : Int) (A : Option Addr) (m c : Nat) (ss : List St) (w : World) (hs : RdS w A m ss) (hb : netB n ss = false) :
    Calls Try.prog 26 #[.int .i64 n, .slice A m c] w fun e w' => e = .returned (.tuple #[.slice none 0 0, .int .i64 2]) ∧ Below w.heap.size w w' := by
  have HN := Lib.hid (newNet_c n A m c ss w hs)
  rw [hb] at HN
  go_enter Try.func26, Try.ntmps26
  go_wp2_with fail
  refine HN.out.mono ?_
  rintro e w1 ⟨rfl, hb1⟩
  go_wp2
  go_ret2
  exact ⟨rfl, hb1.trans ((below_one' w1 _).mono hb1.size)⟩


set_option maxHeartbeats 1000000 in
theorem Slack_none (n : Nat) (A : Option Addr) (m c : Nat) (es : List Ed) (w : World) (he : RdE w A m es) (hnet : Net n es) (hb : okP n es = false) :
    Calls Try.prog 26 #[.int .i64 (n : Int), .slice A m c] w fun e w' => e = .returned (.tuple #[.slice none 0 0, .int .i64 6]) ∧ Below w.heap.size w w' := by
  have HS := Lib.hid (fun W h => slack_none n A m c es W h hnet.inN hb)
  have HN := Lib.hid (newNet_c n A m c _ w he)
  rw [net_yes hnet] at HN
  unfold netV at HS
  go_enter Try.func26, Try.ntmps26
  go_wp2_with fail
  refine HN.out.mono ?_
  rintro e w1 ⟨rfl, hb1⟩
  have hbA := below_one' w1 (.cells #[.int .i64 (n : Int), .slice A m c] 66)
  obtain ⟨hc0, hc1⟩ := two_cells w1 (.int .i64 (n : Int)) (.slice A m c) 66
  have hb2 := hb1.trans (hbA.mono hb1.size)
  go_wp2_with fail
  refine (HS.out _ (he.below hb2)).mono ?_
  rintro e w3 ⟨rfl, hb3⟩
  have hbb := hb2.trans (hb3.mono hb2.size)
  go_wp2
  go_ret2
  exact ⟨rfl, hbb⟩

set_option maxHeartbeats 1000000 in
theorem Slack_c (n : Nat) (A : Option Addr) (m c : Nat) (es : List Ed) (w : World) (he : RdE w A m es) (hnet : Net n es) (hb : okP n es = true) :
    Calls Try.prog 26 #[.int .i64 (n : Int), .slice A m c] w fun e w' => ∃ A1 c1, e = .returned (.tuple #[.slice A1 m c1, .int .i64 0]) ∧ OwnI w' w.heap.size A1 m c1 (slkP n es) ∧ Below w.heap.size w w' := by
  have HS := Lib.hid (fun W h => slack_c n A m c es W h hnet.inN hb)
  have HN := Lib.hid (newNet_c n A m c _ w he)
  rw [net_yes hnet] at HN
  unfold netV at HS
  go_enter Try.func26, Try.ntmps26
  go_wp2_with fail
  refine HN.out.mono ?_
  rintro e w1 ⟨rfl, hb1⟩
  have hbA := below_one' w1 (.cells #[.int .i64 (n : Int), .slice A m c] 66)
  obtain ⟨hc0, hc1⟩ := two_cells w1 (.int .i64 (n : Int)) (.slice A m c) 66
  have hb2 := hb1.trans (hbA.mono hb1.size)
  go_wp2_with fail
  refine (HS.out _ (he.below hb2)).mono ?_
  rintro e w3 ⟨A3, c3, b3, rfl, ho3, hm3, hbm, hb3⟩
  have hbb := hb2.trans (hb3.mono hb2.size)
  have hs2 := hb2.size
  go_wp2
  go_ret2
  exact ⟨A3, c3, rfl, own_mono ho3 hs2, hbb⟩

set_option maxHeartbeats 1000000 in
theorem Critical_bad (n : Int) (A : Option Addr) (m c : Nat) (ss : List St) (w : World) (hs : RdS w A m ss) (hb : netB n ss = false) :
    Calls Try.prog 30 #[.int .i64 n, .slice A m c] w fun e w' => e = .returned (.tuple #[.slice none 0 0, .slice none 0 0, .int .i64 2]) ∧ Below w.heap.size w w' := by
  have HN := Lib.hid (newNet_c n A m c ss w hs)
  rw [hb] at HN
  go_enter Try.func30, Try.ntmps30
  go_wp2_with fail
  refine HN.out.mono ?_
  rintro e w1 ⟨rfl, hb1⟩
  go_wp2
  go_ret3
  exact ⟨rfl, hb1.trans ((below_one' w1 _).mono hb1.size)⟩

set_option maxHeartbeats 1000000 in
theorem Critical_none (n : Nat) (A : Option Addr) (m c : Nat) (es : List Ed) (w : World) (he : RdE w A m es) (hnet : Net n es) (hb : okP n es = false) :
    Calls Try.prog 30 #[.int .i64 (n : Int), .slice A m c] w fun e w' => e = .returned (.tuple #[.slice none 0 0, .slice none 0 0, .int .i64 6]) ∧ Below w.heap.size w w' := by
  have HS := Lib.hid (fun W h => slack_none n A m c es W h hnet.inN hb)
  have HN := Lib.hid (newNet_c n A m c _ w he)
  rw [net_yes hnet] at HN
  unfold netV at HS
  go_enter Try.func30, Try.ntmps30
  go_wp2_with fail
  refine HN.out.mono ?_
  rintro e w1 ⟨rfl, hb1⟩
  have hbA := below_one' w1 (.cells #[.int .i64 (n : Int), .slice A m c] 66)
  obtain ⟨hc0, hc1⟩ := two_cells w1 (.int .i64 (n : Int)) (.slice A m c) 66
  have hb2 := hb1.trans (hbA.mono hb1.size)
  go_wp2_with fail
  refine (HS.out _ (he.below hb2)).mono ?_
  rintro e w3 ⟨rfl, hb3⟩
  have hbb := hb2.trans (hb3.mono hb2.size)
  go_wp2
  go_ret3
  exact ⟨rfl, hbb⟩

/-- The streets that are in all, and those that are in no smallest tree, as the program tells them. -/
def alwB (T : List Nat) (D : List Int) (k : Nat) : Bool := decide (k ∈ T) && decide (int_ D k ≠ 0)
def nevB (T : List Nat) (D : List Int) (k : Nat) : Bool := !decide (k ∈ T) && decide (int_ D k ≠ 0)
def alwP (n : Nat) (es : List Ed) : List Nat := (List.range es.length).filter (alwB (treeP n es) (slkP n es))
def nevP (n : Nat) (es : List Ed) : List Nat := (List.range es.length).filter (nevB (treeP n es) (slkP n es))

theorem filt_le (p : Nat → Bool) (k : Nat) : ((List.range k).filter p).length ≤ k := by
  have := List.length_filter_le p (List.range k)
  rw [List.length_range] at this; exact this

theorem MapB.below' {w w' : World} {b : Nat} {T : List Nat} (h : MapB w b T) (hb : Below w.heap.size w w') : MapB w' b T := h.below hb h.lt

set_option maxHeartbeats 2000000 in
set_option maxRecDepth 100000 in
theorem Critical_c (n : Nat) (A : Option Addr) (m c : Nat) (es : List Ed) (w : World) (he : RdE w A m es) (hnet : Net n es) (hb : okP n es = true) :
    Calls Try.prog 30 #[.int .i64 (n : Int), .slice A m c] w fun e w' => ∃ A1 c1 A2 c2, e = .returned (.tuple #[.slice A1 (alwP n es).length c1, .slice A2 (nevP n es).length c2, .int .i64 0]) ∧ RdN w' A1 (alwP n es).length (alwP n es) ∧ RdN w' A2 (nevP n es).length (nevP n es) ∧ Below w.heap.size w w' := by
  have hel := he.len
  have hm : m ≤ 60 := by have := hnet.len; omega
  have HS := Lib.hid (fun W h => slack_c n A m c es W h hnet.inN hb)
  have HN := Lib.hid (newNet_c n A m c _ w he)
  rw [net_yes hnet] at HN
  unfold netV at HS
  go_enter Try.func30, Try.ntmps30
  go_wp2_with fail
  refine HN.out.mono ?_
  rintro e w1 ⟨rfl, hb1⟩
  have hbA := below_one' w1 (.cells #[.int .i64 (n : Int), .slice A m c] 66)
  obtain ⟨hc0, hc1⟩ := two_cells w1 (.int .i64 (n : Int)) (.slice A m c) 66
  have hb2 := hb1.trans (hbA.mono hb1.size)
  go_wp2_with fail
  refine (HS.out _ (he.below hb2)).mono ?_
  rintro e w3 ⟨A3, c3, b3, rfl, ho3, hm3, hbm, hb3⟩
  have hbb := hb2.trans (hb3.mono hb2.size)
  have hr3 := ho3.rd
  have H1 := Lib.hid (show alwP n es = (List.range m).filter (alwB (treeP n es) (slkP n es)) by unfold alwP; rw [hel])
  have H2 := Lib.hid (show nevP n es = (List.range m).filter (nevB (treeP n es) (slkP n es)) by unfold nevP; rw [hel])
  generalize treeP n es = T at *
  generalize slkP n es = D at *
  clear hb3 hb2 hbA hc0 hc1 HS HN ho3
  go_wp2
  go_loopw [33, 11, 12] (fun i s t wr => ∃ (k : Nat) (A4 : Option Addr) (c4 : Nat) (A5 : Option Addr) (c5 : Nat), k ≤ m ∧ i = .int .i64 ((k : Nat) : Int) ∧ s = .slice A4 ((List.range k).filter (alwB T D)).length c4 ∧ t = .slice A5 ((List.range k).filter (nevB T D)).length c5 ∧
    OwnN wr w3.heap.size A4 ((List.range k).filter (alwB T D)).length c4 ((List.range k).filter (alwB T D)) ∧ OwnN wr w3.heap.size A5 ((List.range k).filter (nevB T D)).length c5 ((List.range k).filter (nevB T D)) ∧ Dj A4 A5 ∧ Below w3.heap.size w3 wr) (fun i _ _ _ => m - (intOf i).toNat)
  case atStart => exact ⟨0, none, 0, none, 0, Nat.zero_le _, rfl, rfl, rfl, OwnN.none_ _ _, OwnN.none_ _ _, Dj.none_ _, Below.refl _ _⟩
  case round =>
    obtain ⟨k, A4, c4, A5, c5, hk, rfl, rfl, rfl, ho4, ho5, hdj, hbr⟩ := hrel
    have hmr := hm3.below' hbr
    have hzr := hbr.size
    have hml := hm3.lt
    have hf4 := filt_le (alwB T D) k
    have hf5 := filt_le (nevB T D) k
    by_cases hkm : k < m
    · obtain ⟨b1, o1, rfl, _, h1⟩ := (hr3.below hbr).at_ hkm
      by_cases h0 : int_ D k = 0
      · have hd : (int_ D k != 0) = false := by simp [h0]
        have HA := Lib.hid (filter_succ_no (show alwB T D k = false by unfold alwB; simp [h0]))
        have HB := Lib.hid (filter_succ_no (show nevB T D k = false by unfold nevB; simp [h0]))
        clear h0
        by_cases hT : k ∈ T
        · have hdT : decide (k ∈ T) = true := by simpa using hT
          clear hT
          go_wp2_with (at_lookup; refine wpList_look_b (T := T) ?_ rfl _ _ rfl rfl rfl (by omega) ?_; assumption)
          exact ⟨⟨k + 1, A4, c4, A5, c5, by omega, by go_num, by rw [HA.out], by rw [HB.out], by rw [HA.out]; exact ho4, by rw [HB.out]; exact ho5, hdj, hbr⟩, by simp [intOf]; omega⟩
        · have hdT : decide (k ∈ T) = false := by simpa using hT
          clear hT
          go_wp2_with (at_lookup; refine wpList_look_b (T := T) ?_ rfl _ _ rfl rfl rfl (by omega) ?_; assumption)
          exact ⟨⟨k + 1, A4, c4, A5, c5, by omega, by go_num, by rw [HA.out], by rw [HB.out], by rw [HA.out]; exact ho4, by rw [HB.out]; exact ho5, hdj, hbr⟩, by simp [intOf]; omega⟩
      · have hd : (int_ D k != 0) = true := by simpa using h0
        by_cases hT : k ∈ T
        · have hdT : decide (k ∈ T) = true := by simpa using hT
          have HA := Lib.hid (filter_succ_yes (show alwB T D k = true by unfold alwB; rw [hdT]; simp [h0]))
          have HB := Lib.hid (filter_succ_no (show nevB T D k = false by unfold nevB; rw [hdT]; rfl))
          clear hT h0
          go_wp2_with (first | (at_lookup; refine wpList_look_b (T := T) ?_ rfl _ _ rfl rfl rfl (by omega) ?_; assumption) | ((with_reducible show Go.wpList _ _ _ ({ dst := some 48, op := _, type := _, pos := _, after := _, guard := _ } :: _) _ _); refine wpList_push_n (v := k) ho4 rfl _ _ rfl rfl rfl (by omega) hzr ?_; intro A6 c6 w6 ho6 hb6 hg6; have hmr5 := hmr.below hb6 hml; have hb36 := hbr.trans hb6))
          exact ⟨⟨k + 1, A6, c6, A5, c5, by omega, by go_num, by rw [HA.out, List.length_append]; rfl, by rw [HB.out], by rw [HA.out, List.length_append]; exact ho6, by rw [HB.out]; exact own_grew ho5 hg6 hdj.symm, hdj.push hg6 ho5, hb36⟩, by simp [intOf]; omega⟩
        · have hdT : decide (k ∈ T) = false := by simpa using hT
          have HA := Lib.hid (filter_succ_no (show alwB T D k = false by unfold alwB; rw [hdT]; rfl))
          have HB := Lib.hid (filter_succ_yes (show nevB T D k = true by unfold nevB; rw [hdT]; simp [h0]))
          clear hT h0
          go_wp2_with (first | (at_lookup; refine wpList_look_b (T := T) ?_ rfl _ _ rfl rfl rfl (by omega) ?_; assumption) | ((with_reducible show Go.wpList _ _ _ ({ dst := some 60, op := _, type := _, pos := _, after := _, guard := _ } :: _) _ _); refine wpList_push_n (v := k) ho5 rfl _ _ rfl rfl rfl (by omega) hzr ?_; intro A6 c6 w6 ho6 hb6 hg6; have hb36 := hbr.trans hb6))
          exact ⟨⟨k + 1, A4, c4, A6, c6, by omega, by go_num, by rw [HA.out], by rw [HB.out, List.length_append]; rfl, by rw [HA.out]; exact own_grew ho4 hg6 hdj, by rw [HB.out, List.length_append]; exact ho6, (hdj.symm.push hg6 ho4).symm, hb36⟩, by simp [intOf]; omega⟩
    · obtain rfl : k = m := by omega
      have hbe := hbb.trans (hbr.mono hbb.size)
      go_wp2
      go_ret3
      rw [H1.out, H2.out]
      exact ⟨A4, c4, A5, c5, rfl, ho4.rd, ho5.rd, hbe⟩

end Go.Proofs.Ytpfbichomgojoaa
