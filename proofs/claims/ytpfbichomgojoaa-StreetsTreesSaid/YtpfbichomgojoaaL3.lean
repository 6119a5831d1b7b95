/- Walk: StreetsTrees returns true. -/
import Derived.Test.YtpfbichomgojoaaH2
import Derived.Test.YtpfbichomgojoaaG3
namespace Go.Proofs.Ytpfbichomgojoaa
open Go.RowKit

theorem ss_len {ss : List St} {m : Nat} (h : ss.length = m) : (ss.take 61).length = min m 61 := by rw [List.length_take, h]; omega


set_option maxHeartbeats 1000000 in
theorem Trees_bad (n : Int) (A : Option Addr) (m c : Nat) (ss : List St) (w : World) (hs : RdS w A m ss) (hmc : m ≤ c) (hm : m ≤ 9223372036854775807) (hb : netB n (ss.take 61) = false) :
    Calls Try.prog 3 #[.int .i64 n, .slice A m c] w fun e w' => e = .returned (.bool true) ∧ Below w.heap.size w w' := by
  have hk : min m 61 ≤ 1000 := by omega
  have HB := Lib.hid hb
  go_enter Try.func3, Try.ntmps3
  go_wp2_with fail
  refine (net_c A m c ss w hs hmc hm).mono ?_
  rintro e w2 ⟨A2, c2, rfl, ho2, hb2⟩
  have hs2 := ho2.rd
  clear ho2
  generalize min m 61 = k at *
  generalize ss.take 61 = S at *
  go_wp2_with fail
  refine (Tree_bad n A2 k c2 S w2 hs2 hb).mono ?_
  rintro e w3 ⟨rfl, hb3⟩
  have hs3 := hs2.below hb3
  have hbb3 := hb2.trans (hb3.mono hb2.size)
  go_wp2_with fail
  refine (Second_bad n A2 k c2 S w3 hs3 hb).mono ?_
  rintro e w4 ⟨rfl, hb4⟩
  have hs4 := hs3.below hb4
  have hbb4 := hbb3.trans (hb4.mono hbb3.size)
  go_wp2_with fail
  refine (Count_bad n A2 k c2 S w4 hs4 hb).mono ?_
  rintro e w5 ⟨rfl, hb5⟩
  have hs5 := hs4.below hb5
  have hbb5 := hbb4.trans (hb5.mono hbb4.size)
  go_wp2_with fail
  refine (RNet_c n A2 k c2 S w5 hs5 hk).mono ?_
  rintro e w6 ⟨rfl, hb6⟩
  have hbb6 := hbb5.trans (hb6.mono hbb5.size)
  rw [netR_eq, hb]
  go_wp2_with fail
  refine (awake_c w6).mono ?_
  rintro e w7 ⟨rfl, hb7⟩
  have hbb7 := hbb6.trans (hb7.mono hbb6.size)
  go_wp2
  go_ret
  exact ⟨rfl, hbb7⟩




theorem rcV_none {n : Nat} {es : List Ed} (h : firstOk n es = false) : rcV n es = 0 := by unfold rcV; rw [h]; rfl

set_option maxHeartbeats 1000000 in
theorem Trees_none (n : Nat) (A : Option Addr) (m c : Nat) (ss : List St) (es : List Ed) (w : World) (hs : RdS w A m ss) (hmc : m ≤ c) (hm : m ≤ 9223372036854775807) (hS : ss.take 61 = es.map Ed.st) (hn : Net n es) (hok : firstOk n es = false) :
    Calls Try.prog 3 #[.int .i64 (n : Int), .slice A m c] w fun e w' => e = .returned (.bool true) ∧ Below w.heap.size w w' := by
  have hokP : okP n es = false := by rw [okP_eq hn, hok]
  have HR := Lib.hid (rcV_none hok)
  have hk : min m 61 ≤ 1000 := by omega
  have hl0 := ss_len hs.1
  go_enter Try.func3, Try.ntmps3
  go_wp2_with fail
  refine (net_c A m c ss w hs hmc hm).mono ?_
  rintro e w2 ⟨A2, c2, rfl, ho2, hb2⟩
  have hs2 := ho2.rd
  clear ho2
  generalize min m 61 = k at *
  generalize ss.take 61 = S at *
  subst hS
  rw [List.length_map] at hl0
  have he2 : RdE w2 A2 k es := hs2
  have hbb2 := hb2
  clear hs2 hs hmc hm
  go_wp2_with fail
  refine (Tree_none n A2 k c2 es w2 he2 hn hokP).mono ?_
  rintro e w3 ⟨rfl, hb3⟩
  have he3 := he2.below hb3
  have hbb3 := hbb2.trans (hb3.mono hbb2.size)
  go_wp2_with fail
  refine (Second_none n A2 k c2 es w3 he3 hn hokP).mono ?_
  rintro e w4 ⟨rfl, hb4⟩
  have he4 := he3.below hb4
  have hbb4 := hbb3.trans (hb4.mono hbb3.size)
  go_wp2_with fail
  refine (Count_none n A2 k c2 es w4 he4 hn hokP).mono ?_
  rintro e w5 ⟨rfl, hb5⟩
  have he5 := he4.below hb5
  have hbb5 := hbb4.trans (hb5.mono hbb4.size)
  go_wp2_with fail
  refine (RNet_c n A2 k c2 _ w5 he5 hk).mono ?_
  rintro e w6 ⟨rfl, hb6⟩
  have he6 := he5.below hb6
  have hbb6 := hbb5.trans (hb6.mono hbb5.size)
  rw [netR_eq, net_yes hn]
  go_wp2_with fail
  refine (RCount_n A2 k c2 w6 he6 hn).mono ?_
  rintro e w7 ⟨rfl, hb7⟩
  have he7 := he6.below hb7
  have hbb7 := hbb6.trans (hb7.mono hbb6.size)
  rw [HR.out]
  go_wp2_with fail
  refine (First_c n A2 k c2 es w7 he7 hn).mono ?_
  rintro e w8 ⟨A8, c8, rfl, ho8, hb8⟩
  have he8 := he7.below hb8
  have hbb8 := hbb7.trans (hb8.mono hbb7.size)
  rw [hok]
  go_wp2_with fail
  refine (awake_c w8).mono ?_
  rintro e w9 ⟨rfl, hb9⟩
  have he9 := he8.below hb9
  have hbb9 := hbb8.trans (hb9.mono hbb8.size)
  go_wp2
  go_ret
  exact ⟨rfl, hbb9⟩

set_option maxHeartbeats 1000000 in
theorem Trees_ok (n : Nat) (A : Option Addr) (m c : Nat) (ss : List St) (es : List Ed) (w : World) (hs : RdS w A m ss) (hmc : m ≤ c) (hm : m ≤ 9223372036854775807) (hS : ss.take 61 = es.map Ed.st) (hn : Net n es) (hok : firstOk n es = true) :
    Calls Try.prog 3 #[.int .i64 (n : Int), .slice A m c] w fun e w' => e = .returned (.bool true) ∧ Below w.heap.size w w' := by
  have hokP : okP n es = true := by rw [okP_eq hn, hok]
  have HC := Lib.hid (cntP_eq hn hok)
  have HR := Lib.hid (rcV_eq hn hok)
  have HF := Lib.hid (srt_first hn)
  have hlt : ∀ x ∈ firstL n es, x < es.length := fun x hx => treeP_lt x (mem_treeP.2 hx)
  have hfl := takL_length_le n es
  generalize hcn : mstN n es = cn at *
  have hd1 : (((cn : Nat) : Int) != ((cn : Nat) : Int)) = false := by simp
  generalize hF : ((firstL n es).length) = fl at *
  have hfm : fl ≤ es.length := by rw [← hF]; exact takL_length_le n es _
  have hd2 : (((wsum es (firstL n es) : Nat) : Int) != ((wsum es (firstL n es) : Nat) : Int)) = false := by simp
  have hk : min m 61 ≤ 1000 := by omega
  have hl0 := ss_len hs.1
  go_enter Try.func3, Try.ntmps3
  go_wp2_with fail
  refine (net_c A m c ss w hs hmc hm).mono ?_
  rintro e w2 ⟨A2, c2, rfl, ho2, hb2⟩
  have hs2 := ho2.rd
  clear ho2
  generalize min m 61 = k at *
  generalize ss.take 61 = S at *
  subst hS
  rw [List.length_map] at hl0
  have he2 : RdE w2 A2 k es := hs2
  have hbb2 := hb2
  clear hs2 hs hmc hm
  go_wp2_with fail
  refine (Tree_c n A2 k c2 es w2 he2 hn hokP).mono ?_
  rintro e w3 ⟨A3, c3, rfl, ho3, hb3⟩
  have he3 := he2.below hb3
  have hbb3 := hbb2.trans (hb3.mono hbb2.size)
  rw [HF.out] at ho3 ⊢
  have ht3 := ho3.rd
  clear ho3
  rw [hF] at ht3 ⊢
  generalize hsw : ((wsum es (firstL n es) : Nat) : Int) = sw at *
  have HN := Lib.hid hcn
  clear hcn
  by_cases hall : (treeP n es).length = es.length
  · go_wp2_with fail
    refine (Second_all n A2 k c2 es w3 he3 hn hokP hall).mono ?_
    rintro e w4 ⟨rfl, hb4⟩
    have he4 := he3.below hb4
    have hbb4 := hbb3.trans (hb4.mono hbb3.size)
    have ht4 := ht3.below hb4
    go_wp2_with fail
    refine (Count_c n A2 k c2 es w4 he4 hn hokP).mono ?_
    rintro e w5 ⟨rfl, hb5⟩
    have he5 := he4.below hb5
    have hbb5 := hbb4.trans (hb5.mono hbb4.size)
    have ht5 := ht4.below hb5
    rw [HC.out]
    go_wp2_with fail
    refine (RNet_c n A2 k c2 _ w5 he5 hk).mono ?_
    rintro e w6 ⟨rfl, hb6⟩
    have he6 := he5.below hb6
    have hbb6 := hbb5.trans (hb6.mono hbb5.size)
    have ht6 := ht5.below hb6
    rw [netR_eq, net_yes hn]
    go_wp2_with fail
    refine (RCount_n A2 k c2 w6 he6 hn).mono ?_
    rintro e w7 ⟨rfl, hb7⟩
    have he7 := he6.below hb7
    have hbb7 := hbb6.trans (hb7.mono hbb6.size)
    have ht7 := ht6.below hb7
    rw [HR.out]
    go_wp2_with fail
    refine (First_c n A2 k c2 es w7 he7 hn).mono ?_
    rintro e w8 ⟨A8, c8, rfl, ho8, hb8⟩
    have he8 := he7.below hb8
    have hbb8 := hbb7.trans (hb8.mono hbb7.size)
    have ht8 := ht7.below hb8
    have hf8 := ho8.rd
    clear ho8
    rw [hok]
    rw [hF] at hf8 ⊢
    go_wp2_with fail
    refine (ints_c A3 fl c3 _ A8 fl c8 _ w8 (RdI.of_n ht8) (RdI.of_n hf8) (by omega) (by omega)).mono ?_
    rintro e w9 ⟨rfl, hb9⟩
    have he9 := he8.below hb9
    have hbb9 := hbb8.trans (hb9.mono hbb8.size)
    have hf9 := hf8.below hb9
    rw [decide_eq_true (rfl : (firstL n es).map (fun x : Nat => (x : Int)) = _)]
    go_wp2_with fail
    refine (Weight_c n A2 k c2 es A8 fl c8 (firstL n es) w9 he9 hf9 hn (by omega) (by rw [← hl0]; exact hlt)).mono ?_
    rintro e w10 ⟨rfl, rfl⟩
    rw [hsw]
    go_wp2_with fail
    refine (RSecond_c n A2 k c2 es w9 he9 hn).mono ?_
    rintro e w11 ⟨rfl, hb11⟩
    have he11 := he9.below hb11
    have hbb11 := hbb9.trans (hb11.mono hbb9.size)
    rw [sec_none hn hok hall, decide_eq_false (by omega : ¬ farN < farN)]
    go_wp2_with fail
    refine (awake_c w11).mono ?_
    rintro e w12 ⟨rfl, hb12⟩
    have he12 := he11.below hb12
    have hbb12 := hbb11.trans (hb12.mono hbb11.size)
    go_wp2
    go_ret
    exact ⟨rfl, hbb12⟩
  · obtain ⟨hs1, hs2⟩ := sec_some hn hok hall
    have HS2 := Lib.hid (Second_c n A2 k c2 es w3 he3 hn hokP hall)
    rw [hs2] at HS2
    clear hs2
    generalize hse : ((secN n es : Nat) : Int) = se at *
    have hd3 : (se == se) = true := by simp
    go_wp2_with fail
    refine (HS2.out).mono ?_
    rintro e w4 ⟨rfl, hb4⟩
    have he4 := he3.below hb4
    have hbb4 := hbb3.trans (hb4.mono hbb3.size)
    have ht4 := ht3.below hb4
    go_wp2_with fail
    refine (Count_c n A2 k c2 es w4 he4 hn hokP).mono ?_
    rintro e w5 ⟨rfl, hb5⟩
    have he5 := he4.below hb5
    have hbb5 := hbb4.trans (hb5.mono hbb4.size)
    have ht5 := ht4.below hb5
    rw [HC.out]
    go_wp2_with fail
    refine (RNet_c n A2 k c2 _ w5 he5 hk).mono ?_
    rintro e w6 ⟨rfl, hb6⟩
    have he6 := he5.below hb6
    have hbb6 := hbb5.trans (hb6.mono hbb5.size)
    have ht6 := ht5.below hb6
    rw [netR_eq, net_yes hn]
    go_wp2_with fail
    refine (RCount_n A2 k c2 w6 he6 hn).mono ?_
    rintro e w7 ⟨rfl, hb7⟩
    have he7 := he6.below hb7
    have hbb7 := hbb6.trans (hb7.mono hbb6.size)
    have ht7 := ht6.below hb7
    rw [HR.out]
    go_wp2_with fail
    refine (First_c n A2 k c2 es w7 he7 hn).mono ?_
    rintro e w8 ⟨A8, c8, rfl, ho8, hb8⟩
    have he8 := he7.below hb8
    have hbb8 := hbb7.trans (hb8.mono hbb7.size)
    have ht8 := ht7.below hb8
    have hf8 := ho8.rd
    clear ho8
    rw [hok]
    rw [hF] at hf8 ⊢
    go_wp2_with fail
    refine (ints_c A3 fl c3 _ A8 fl c8 _ w8 (RdI.of_n ht8) (RdI.of_n hf8) (by omega) (by omega)).mono ?_
    rintro e w9 ⟨rfl, hb9⟩
    have he9 := he8.below hb9
    have hbb9 := hbb8.trans (hb9.mono hbb8.size)
    have hf9 := hf8.below hb9
    rw [decide_eq_true (rfl : (firstL n es).map (fun x : Nat => (x : Int)) = _)]
    go_wp2_with fail
    refine (Weight_c n A2 k c2 es A8 fl c8 (firstL n es) w9 he9 hf9 hn (by omega) (by rw [← hl0]; exact hlt)).mono ?_
    rintro e w10 ⟨rfl, rfl⟩
    rw [hsw]
    go_wp2_with fail
    refine (RSecond_c n A2 k c2 es w9 he9 hn).mono ?_
    rintro e w11 ⟨rfl, hb11⟩
    have he11 := he9.below hb11
    have hbb11 := hbb9.trans (hb11.mono hbb9.size)
    rw [hse, decide_eq_true hs1]
    go_wp2_with fail
    refine (awake_c w11).mono ?_
    rintro e w12 ⟨rfl, hb12⟩
    have he12 := he11.below hb12
    have hbb12 := hbb11.trans (hb12.mono hbb11.size)
    go_wp2
    go_ret
    exact ⟨rfl, hbb12⟩

theorem Trees_c (n : Int) (A : Option Addr) (m c : Nat) (ss : List St) (w : World) (hs : RdS w A m ss) (hmc : m ≤ c) (hm : m ≤ 9223372036854775807) :
    Calls Try.prog 3 #[.int .i64 n, .slice A m c] w fun e w' => e = .returned (.bool true) ∧ Below w.heap.size w w' := by
  cases hb : netB n (ss.take 61) with
  | false => exact Trees_bad n A m c ss w hs hmc hm hb
  | true =>
    obtain ⟨n', es, rfl, hS, hn⟩ := net_of hb
    cases hok : firstOk n' es with
    | false => exact Trees_none n' A m c ss es w hs hmc hm hS hn hok
    | true => exact Trees_ok n' A m c ss es w hs hmc hm hS hn hok

end Go.Proofs.Ytpfbichomgojoaa
