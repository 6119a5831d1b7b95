/- Rows.StreetsSlackSaid is proved: for every input StreetsSlack returns true, and each argument reads behind the call as it read before. Conditions: none but the given statement's own. -/
import Derived.Test.YtpfbichomgojoaaH2
import Derived.Test.YtpfbichomgojoaaG3
import Derived.Test.YtpfbichomgojoaaR1
/- part L6 -/
namespace Go.Proofs.Ytpfbichomgojoaa
open Go.RowKit




set_option maxHeartbeats 1000000 in
theorem LSlack_bad (n : Int) (A : Option Addr) (m c : Nat) (ss : List St) (w : World) (hs : RdS w A m ss) (hmc : m ≤ c) (hm : m ≤ 9223372036854775807) (hb : netB n (ss.take 61) = false) :
    Calls Try.prog 6 #[.int .i64 n, .slice A m c] w fun e w' => e = .returned (.bool true) ∧ Below w.heap.size w w' := by
  have HB := Lib.hid hb
  have hk : min m 61 ≤ 1000 := by omega
  have hl0 : (ss.take 61).length = min m 61 := by rw [List.length_take, hs.1]; omega
  go_enter Try.func6, Try.ntmps6
  go_wp2_with fail
  refine (net_c A m c ss w hs hmc hm).mono ?_
  rintro e w2 ⟨A2, c2, rfl, ho2, hb2⟩
  have hs2 := ho2.rd
  clear ho2
  generalize min m 61 = k at *
  generalize ss.take 61 = S at *
  have he2 := hs2
  have hbb2 := hb2
  go_wp2_with fail
  refine (Slack_bad n A2 k c2 S w2 he2 hb).mono ?_
  rintro e w3 ⟨rfl, hb3⟩
  have he3 := he2.below hb3
  have hbb3 := hbb2.trans (hb3.mono hbb2.size)
  go_wp2_with fail
  refine (Critical_bad n A2 k c2 S w3 he3 hb).mono ?_
  rintro e w4 ⟨rfl, hb4⟩
  have he4 := he3.below hb4
  have hbb4 := hbb3.trans (hb4.mono hbb3.size)
  go_wp2_with fail
  refine (RNet_c n A2 k c2 S w4 he4 hk).mono ?_
  rintro e w5 ⟨rfl, hb5⟩
  have he5 := he4.below hb5
  have hbb5 := hbb4.trans (hb5.mono hbb4.size)
  rw [netR_eq, hb]
  go_wp2_with fail
  refine (awake_c w5).mono ?_
  rintro e w6 ⟨rfl, hb6⟩
  have he6 := he5.below hb6
  have hbb6 := hbb5.trans (hb6.mono hbb5.size)
  go_wp2
  go_ret
  exact ⟨rfl, hbb6⟩

set_option maxHeartbeats 1000000 in
theorem LSlack_none (n : Nat) (A : Option Addr) (m c : Nat) (ss : List St) (es : List Ed) (w : World) (hs : RdS w A m ss) (hmc : m ≤ c) (hm : m ≤ 9223372036854775807) (hS : ss.take 61 = es.map Ed.st) (hn : Net n es) (hok : firstOk n es = false) :
    Calls Try.prog 6 #[.int .i64 (n : Int), .slice A m c] w fun e w' => e = .returned (.bool true) ∧ Below w.heap.size w w' := by
  have hokP : okP n es = false := by rw [okP_eq hn, hok]
  have hk : min m 61 ≤ 1000 := by omega
  have hl0 : (ss.take 61).length = min m 61 := by rw [List.length_take, hs.1]; omega
  go_enter Try.func6, Try.ntmps6
  go_wp2_with fail
  refine (net_c A m c ss w hs hmc hm).mono ?_
  rintro e w2 ⟨A2, c2, rfl, ho2, hb2⟩
  have hs2 := ho2.rd
  clear ho2
  generalize min m 61 = k at *
  generalize ss.take 61 = S at *
  subst hS
  rw [List.length_map] at hl0
  have he2 : RdE w2 A2 k es := hs2
  have hbb2 := hb2
  clear hs2 hs hmc hm
  go_wp2_with fail
  refine (Slack_none n A2 k c2 es w2 he2 hn hokP).mono ?_
  rintro e w3 ⟨rfl, hb3⟩
  have he3 := he2.below hb3
  have hbb3 := hbb2.trans (hb3.mono hbb2.size)
  go_wp2_with fail
  refine (Critical_none n A2 k c2 es w3 he3 hn hokP).mono ?_
  rintro e w4 ⟨rfl, hb4⟩
  have he4 := he3.below hb4
  have hbb4 := hbb3.trans (hb4.mono hbb3.size)
  go_wp2_with fail
  refine (RNet_c n A2 k c2 _ w4 he4 hk).mono ?_
  rintro e w5 ⟨rfl, hb5⟩
  have he5 := he4.below hb5
  have hbb5 := hbb4.trans (hb5.mono hbb4.size)
  rw [netR_eq, net_yes hn]
  go_wp2_with fail
  refine (First_c n A2 k c2 es w5 he5 hn).mono ?_
  rintro e w6 ⟨A6, c6, rfl, ho6, hb6⟩
  have he6 := he5.below hb6
  have hbb6 := hbb5.trans (hb6.mono hbb5.size)
  rw [hok]
  go_wp2_with fail
  refine (awake_c w6).mono ?_
  rintro e w7 ⟨rfl, hb7⟩
  have he7 := he6.below hb7
  have hbb7 := hbb6.trans (hb7.mono hbb6.size)
  go_wp2
  go_ret
  exact ⟨rfl, hbb7⟩

set_option maxHeartbeats 1000000 in
theorem LSlack_ok (n : Nat) (A : Option Addr) (m c : Nat) (ss : List St) (es : List Ed) (w : World) (hs : RdS w A m ss) (hmc : m ≤ c) (hm : m ≤ 9223372036854775807) (hS : ss.take 61 = es.map Ed.st) (hn : Net n es) (hok : firstOk n es = true) :
    Calls Try.prog 6 #[.int .i64 (n : Int), .slice A m c] w fun e w' => e = .returned (.bool true) ∧ Below w.heap.size w w' := by
  have hokP : okP n es = true := by rw [okP_eq hn, hok]
  have HS := Lib.hid (slk_eq hn hok)
  have HA := Lib.hid (crit_eq hn hok)
  have hla : (critA n es).length ≤ es.length := by unfold critA; exact Nat.le_trans (List.length_filter_le _ _) (by rw [List.length_range]; exact Nat.le_refl _)
  have hlb : (critN n es).length ≤ es.length := by unfold critN; exact Nat.le_trans (List.length_filter_le _ _) (by rw [List.length_range]; exact Nat.le_refl _)
  generalize hca : (critA n es).length = la at *
  generalize hcb : (critN n es).length = lb at *
  have HCA := Lib.hid hca
  have HCB := Lib.hid hcb
  clear hca hcb
  have hk : min m 61 ≤ 1000 := by omega
  have hl0 : (ss.take 61).length = min m 61 := by rw [List.length_take, hs.1]; omega
  go_enter Try.func6, Try.ntmps6
  go_wp2_with fail
  refine (net_c A m c ss w hs hmc hm).mono ?_
  rintro e w2 ⟨A2, c2, rfl, ho2, hb2⟩
  have hs2 := ho2.rd
  clear ho2
  generalize min m 61 = k at *
  generalize ss.take 61 = S at *
  subst hS
  rw [List.length_map] at hl0
  have he2 : RdE w2 A2 k es := hs2
  have hbb2 := hb2
  clear hs2 hs hmc hm
  go_wp2_with fail
  refine (Slack_c n A2 k c2 es w2 he2 hn hokP).mono ?_
  rintro e w3 ⟨A3, c3, rfl, ho3, hb3⟩
  have he3 := he2.below hb3
  have hbb3 := hbb2.trans (hb3.mono hbb2.size)
  have hx3 := ho3.rd
  clear ho3
  rw [HS.out] at hx3
  go_wp2_with fail
  refine (Critical_c n A2 k c2 es w3 he3 hn hokP).mono ?_
  rintro e w4 ⟨A4, c4, B4, d4, rfl, ha4, hn4, hb4⟩
  have he4 := he3.below hb4
  have hbb4 := hbb3.trans (hb4.mono hbb3.size)
  have hx4 := hx3.below hb4
  rw [HA.out.1, HCA.out] at ha4
  rw [HA.out.2, HCB.out] at hn4
  rw [HA.out.1, HA.out.2, HCA.out, HCB.out]
  go_wp2_with fail
  refine (RNet_c n A2 k c2 _ w4 he4 hk).mono ?_
  rintro e w5 ⟨rfl, hb5⟩
  have he5 := he4.below hb5
  have hbb5 := hbb4.trans (hb5.mono hbb4.size)
  have hx5 := hx4.below hb5
  have ha5 := ha4.below hb5
  have hn5 := hn4.below hb5
  rw [netR_eq, net_yes hn]
  go_wp2_with fail
  refine (First_c n A2 k c2 es w5 he5 hn).mono ?_
  rintro e w6 ⟨A6, c6, rfl, ho6, hb6⟩
  have he6 := he5.below hb6
  have hbb6 := hbb5.trans (hb6.mono hbb5.size)
  have hx6 := hx5.below hb6
  have ha6 := ha5.below hb6
  have hn6 := hn5.below hb6
  clear ho6
  generalize (firstL n es).length = fl at *
  rw [hok]
  go_wp2_with fail
  refine (RCritical_c n A2 k c2 es w6 he6 hn).mono ?_
  rintro e w7 ⟨A7, c7, B7, d7, rfl, hra7, hrn7, hb7⟩
  have he7 := he6.below hb7
  have hbb7 := hbb6.trans (hb7.mono hbb6.size)
  have hx7 := hx6.below hb7
  have ha7 := ha6.below hb7
  have hn7 := hn6.below hb7
  rw [HCA.out] at hra7 ⊢
  rw [HCB.out] at hrn7 ⊢
  go_wp2_with fail
  refine (RSlack_c n A2 k c2 es w7 he7 hn).mono ?_
  rintro e w8 ⟨A8, c8, rfl, ho8, hb8⟩
  have he8 := he7.below hb8
  have hbb8 := hbb7.trans (hb8.mono hbb7.size)
  have hx8 := hx7.below hb8
  have ha8 := ha7.below hb8
  have hn8 := hn7.below hb8
  have hra8 := hra7.below hb8
  have hrn8 := hrn7.below hb8
  have hy8 := ho8.rd
  clear ho8
  go_wp2_with fail
  refine (ints_c A3 k c3 _ A8 k c8 _ w8 hx8 hy8 (by omega) (by omega)).mono ?_
  rintro e w9 ⟨rfl, hb9⟩
  have he9 := he8.below hb9
  have hbb9 := hbb8.trans (hb9.mono hbb8.size)
  rw [decide_eq_true (rfl : slkR n es = _)]
  have ha9 := ha8.below hb9
  have hn9 := hn8.below hb9
  have hra9 := hra8.below hb9
  have hrn9 := hrn8.below hb9
  go_wp2_with fail
  refine (ints_c A4 la c4 _ A7 la c7 _ w9 (RdI.of_n ha9) (RdI.of_n hra9) (by omega) (by omega)).mono ?_
  rintro e w10 ⟨rfl, hb10⟩
  have he10 := he9.below hb10
  have hbb10 := hbb9.trans (hb10.mono hbb9.size)
  rw [decide_eq_true (rfl : (critA n es).map (fun x : Nat => (x : Int)) = _)]
  have hn10 := hn9.below hb10
  have hrn10 := hrn9.below hb10
  go_wp2_with fail
  refine (ints_c B4 lb d4 _ B7 lb d7 _ w10 (RdI.of_n hn10) (RdI.of_n hrn10) (by omega) (by omega)).mono ?_
  rintro e w11 ⟨rfl, hb11⟩
  have he11 := he10.below hb11
  have hbb11 := hbb10.trans (hb11.mono hbb10.size)
  rw [decide_eq_true (rfl : (critN n es).map (fun x : Nat => (x : Int)) = _)]
  go_wp2_with fail
  refine (awake_c w11).mono ?_
  rintro e w12 ⟨rfl, hb12⟩
  have he12 := he11.below hb12
  have hbb12 := hbb11.trans (hb12.mono hbb11.size)
  go_wp2
  go_ret
  exact ⟨rfl, hbb12⟩

theorem LSlack_true (n : Int) (A : Option Addr) (m c : Nat) (ss : List St) (w : World) (hs : RdS w A m ss) (hmc : m ≤ c) (hm : m ≤ 9223372036854775807) :
    Calls Try.prog 6 #[.int .i64 n, .slice A m c] w fun e w' => e = .returned (.bool true) ∧ Below w.heap.size w w' := by
  cases hb : netB n (ss.take 61) with
  | false => exact LSlack_bad n A m c ss w hs hmc hm hb
  | true =>
    obtain ⟨n', es, rfl, hS, hn⟩ := net_of hb
    cases hok : firstOk n' es with
    | false => exact LSlack_none n' A m c ss es w hs hmc hm hS hn hok
    | true => exact LSlack_ok n' A m c ss es w hs hmc hm hS hn hok

end Go.Proofs.Ytpfbichomgojoaa

/- part C6 -/
namespace Go.Proofs.Ytpfbichomgojoaa
open Go.ChangeShapes Go.WideShapes Go.ChangeAt Go.RowKit

set_option maxRecDepth 100000 in
theorem streetsSlack_lifted (os : Os) (started : os.Started) (H : Type) (enc : TypeId × Value → H) :
    ReturnsInHanded {} Try.checked os 6 .any (Rows.streetsSlackSpec.pre6 enc Try.prog Try.f6 Rows.streetsSlackRow.domain false) (Rows.streetsSlackSpec.post enc Try.prog Try.f6 false true false false) := by
  refine returnsInHanded_of_change (C := Try.checked) own started (by kernel_rfl) Try.func6
    (ChangeSpec.witness6 (enc := enc) (C := Try.checked) false ⟨#[], #[.int .i64 0, .slice none 0 0], []⟩ 8 (by kernel_rfl) (by kernel_rfl) (by kernel_rfl) (by kernel_rfl)) ?_
  intro W base args ds gs before hval0 hW hcnd _
  have hval : ∀ (j : Nat) t v, Try.f6.params[j]? = some t → args[j]? = some v → Value.okWide Try.prog W .any base t v := hval0
  have hW' := hW
  obtain ⟨p, q, hA0, hV, rfl, hfz, hnd⟩ := hW
  have hA : DataW.TrodAll enc Try.prog W 0 (fun _ => true) true Try.f6.params.toList args.toList ds p := hA0
  rw [Try.params6] at hA hval
  obtain ⟨v0, vs0, d0, ds0, p0, q0, hargs, rfl, rfl, h0, r0⟩ := trodAll_cons hA
  obtain ⟨v1, vs1, d1, ds1, p1, q1, rfl, rfl, rfl, h1, r1⟩ := trodAll_cons r0
  obtain ⟨rfl, rfl, rfl⟩ := trodAll_nil r1
  obtain rfl : args = #[v0, v1] := by cases args; simp_all
  obtain ⟨rfl, rfl⟩ := trodVars_none hV
  obtain ⟨a0, rfl, rfl, rfl, w0⟩ := open_int Try.underlying3 (hval 0 3 v0 rfl rfl) h0
  obtain ⟨a1, len1, cap1, rfl⟩ := okWide_slice Try.underlying22 (hval 1 22 v1 rfl rfl)
  have lt1 : ∀ x ∈ p1, x.block < W.heap.size := by obtain ⟨m, hm⟩ := h1; exact DataW.trod_lt m _ _ _ hm
  obtain ⟨z1, hs1, hc1, hm1⟩ := open_streets h1
  clear hA0 hval0
  refine (LSlack_true a0 a1 len1 cap1 z1 W hs1 hc1 hm1).mono fun e W' ⟨he, bel⟩ => ?_
  subst he
  exact ⟨_, rfl, _, _, _, [], _, [], hW', trodAll_mk1 (shut_bool Try.underlying4 _), (trodAll_cons_mk (shut_int Try.underlying3 w0) (trodAll_cons_mk (Below.trod laidOut (by kernel_rfl) (of_decide_eq_true (by kernel_rfl)) h1 bel lt1) trodAll_mk0)), rfl, bel.frame _, fun h => by cases h⟩

theorem streetsSlack_holds : Rows.StreetsSlackSaid :=
  OpenClaim.holds_of_wide 6 Try.f6 rfl rfl rfl rfl rfl rfl rfl ⟨rfl, rfl, rfl, rfl, rfl⟩ rfl rfl rfl rfl rfl (by kernel_rfl) Try.func6 (by kernel_rfl)
    (of_decide_eq_true (by kernel_rfl)) (by unfold Func.isWrapper; first | (rw [if_pos (by decide +kernel)]; kernel_rfl) | (rw [if_neg (by decide +kernel)]; exact ⟨rfl, rfl⟩))
    (fun os started H enc _ => streetsSlack_lifted os started H enc)
#print axioms streetsSlack_holds

end Go.Proofs.Ytpfbichomgojoaa
