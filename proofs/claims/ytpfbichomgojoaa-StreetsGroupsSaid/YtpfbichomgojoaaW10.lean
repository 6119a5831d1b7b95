/- Walk: the reference's Count. -/
import Derived.Test.YtpfbichomgojoaaW9
namespace Go.Proofs.Ytpfbichomgojoaa
open Go.RowKit

theorem rcF_succ {n : Nat} {es : List Ed} {q : Nat} : rcF n es (q + 1) = rcS n es (ordL es) (rcF n es q) q := by unfold rcF; exact foldl_range
theorem rcJ_inv {n : Nat} {es : List Ed} {w : Nat} (hn : 0 < n) : ∀ (l : List Nat) (g : List Nat), g.length = n → (∀ x ∈ g, x < n) → (l.foldl (rcJ es w) g).length = n ∧ ∀ x ∈ l.foldl (rcJ es w) g, x < n := by
  intro l
  induction l with
  | nil => intro g h1 h2; exact ⟨h1, h2⟩
  | cons k l ih =>
    intro g h1 h2
    refine ih _ ?_ ?_
    · unfold rcJ; split
      · rw [joinL_length]; exact h1
      · exact h1
    · unfold rcJ; split
      · exact joinL_lt h2 hn _ _
      · exact h2
theorem rcF_inv {n : Nat} {es : List Ed} (hn : 0 < n) (q : Nat) : (rcF n es q).2.length = n ∧ ∀ x ∈ (rcF n es q).2, x < n := by
  induction q with
  | zero => exact ⟨by simp [rcF], fun x hx => List.mem_range.1 hx⟩
  | succ q ih =>
    rw [rcF_succ]
    unfold rcS
    split
    · exact ih
    · exact rcJ_inv hn _ _ ih.1 ih.2
/-- What the reference's Count returns. -/
def rcV (n : Nat) (es : List Ed) : Nat := if firstOk n es then rcP n es else 0

set_option maxHeartbeats 4000000 in
set_option maxRecDepth 100000 in
theorem RCount_c (n : Nat) (E : Option Addr) (m ce : Nat) (es : List Ed) (w : World) (he : RdE w E m es) (hnet : Net n es)
    (hB1 : firstOk n es = true → ∀ q, q ≤ es.length → (rcF n es q).1 ≤ 4611686018427387904)
    (hB2 : firstOk n es = true → ∀ i, i < es.length → rcB es (ordL es) i = false → ∀ q, q ≤ n → foQ n es (rcF n es i).2 (ew es (nat_ (ordL es) i)) q ≤ 4611686018427387904) :
    Calls Try.prog 19 #[.int .i64 (n : Int), .slice E m ce] w fun e w' => e = .returned (.int .i64 ((rcV n es : Nat) : Int)) ∧ Below w.heap.size w w' := by
  have hel := Lib.hid he.len
  have hN := hnet.inN
  have hn16 := hN.1
  have hn1 := hnet.n1
  have hm60 : m ≤ 60 := by have := hN.2.1; have := hel.out; omega
  have HFi := Lib.hid (First_c n E m ce es w he hnet)
  cases hok : firstOk n es with
  | false =>
    rw [hok] at HFi
    have HV : Hid (rcV n es = 0) := by unfold rcV; rw [hok]; exact rfl
    clear hok hB1 hB2
    go_enter Try.func19, Try.ntmps19
    go_wp2_with fail
    refine HFi.out.mono ?_
    rintro e w1 ⟨A1, c1, rfl, ho1, hb1⟩
    go_wp2
    go_ret
    rw [HV.out]
    exact ⟨rfl, hb1⟩
  | true =>
    rw [hok] at HFi
    have HV : Hid (rcV n es = (rcF n es es.length).1) := by unfold rcV; rw [hok]; exact rfl
    have HB1 := Lib.hid (hB1 hok)
    have HB2 := Lib.hid (hB2 hok)
    clear hok hB1 hB2
    go_enter Try.func19, Try.ntmps19
    go_wp2_with fail
    refine HFi.out.mono ?_
    rintro e w1 ⟨A1, c1, rfl, ho1, hb1⟩
    go_wp2_with fail
    refine (start_c n w1 (by omega)).mono ?_
    rintro e w2 ⟨A2, c2, rfl, ho2, hb2⟩
    have hb12 := hb1.trans (hb2.mono hb1.size)
    go_wp2_with fail
    refine (Order_c E m ce es w2 (he.below hb12) (by omega)).mono ?_
    rintro e w3 ⟨A3, c3, rfl, ho3, hb3⟩
    have hb13 := hb12.trans (hb3.mono hb12.size)
    have hg0 := ho2.rd.below hb3
    have hO := ho3.rd
    clear ho1 ho2 ho3 HFi
    go_wp2
    go_loopw [10, 7, 8] (fun i o g8 wx => ∃ (k out : Nat) (A8 : Option Addr) (c8 : Nat) (g : List Nat), k ≤ m ∧ i = .int .i64 ((k : Nat) : Int) ∧ o = .int .i64 ((out : Nat) : Int) ∧ g8 = .slice A8 n c8 ∧ rcF n es k = (out, g) ∧ RdN wx A8 n g ∧ Below w3.heap.size w3 wx) (fun i _ _ _ => m - (intOf i).toNat)
    case atStart => exact ⟨0, 1, A2, c2, List.range n, Nat.zero_le _, rfl, rfl, rfl, rfl, hg0, Below.refl _ _⟩
    case round =>
      obtain ⟨k, out, A8, c8, g, hkm, rfl, rfl, rfl, hF, hg, hb⟩ := hrel
      have HF := Lib.hid hF
      obtain ⟨hg1, hg2⟩ := rcF_inv (es := es) hn1 k
      rw [hF] at hg1 hg2
      have Hg2 : Hid (∀ x ∈ g, x < n) := hg2
      have hbw := hb13.trans (hb.mono hb13.size)
      clear hF hg1 hg2
      by_cases hk : k < m
      · have hxl : nat_ (ordL es) k ∈ ordL es := nat_mem (by have := hel.out; rw [ordL_length]; omega)
        have hx : nat_ (ordL es) k < m := by have := (ordL_mem es _).1 hxl; have := hel.out; omega
        obtain ⟨b2, o2, hA3e, _, hlk⟩ := (RdN.below hO hb).at_ hk
        obtain ⟨b3, o3, hEe, _, _, _, hwx⟩ := (he.below hbw).at_ hx
        have HSt := Lib.hid (rcF_succ (n := n) (es := es) (q := k))
        have HSB := Lib.hid (show rcB es (ordL es) k = (decide (0 < k) && decide (ew es (nat_ (ordL es) (k - 1)) = ew es (nat_ (ordL es) k))) from rfl)
        have hwx1 : ew es (nat_ (ordL es) k) ≤ 1000 := (hN.2.2 _ (by have := hel.out; omega)).2.2
        subst hA3e hEe
        by_cases h1 : 0 < k
        · have hd1 : decide (0 < k) = true := by simpa using h1
          have hd1' : decide ((0 : Int) < (k : Int)) = true := by simp; omega
          have hyl : nat_ (ordL es) (k - 1) ∈ ordL es := nat_mem (by have := hel.out; rw [ordL_length]; omega)
          have hy : nat_ (ordL es) (k - 1) < m := by have := (ordL_mem es _).1 hyl; have := hel.out; omega
          obtain ⟨_, _, e, _, hlk1⟩ := (RdN.below hO hb).at_ (show k - 1 < m by omega)
          injection e with e; injection e with f2 f3; subst f2 f3
          obtain ⟨_, _, e, _, _, _, hwy⟩ := (he.below hbw).at_ hy
          injection e with e; injection e with f2 f3; subst f2 f3
          have e2 : ((k : Int) - 1).toNat = k - 1 := by omega
          by_cases h2 : ew es (nat_ (ordL es) (k - 1)) = ew es (nat_ (ordL es) k)
          · as_aux_lemma =>
              have hd2 : (((ew es (nat_ (ordL es) (k - 1)) : Nat) : Int) == ((ew es (nat_ (ordL es) k) : Nat) : Int)) = true := by simp [h2]
              have HQ : Hid (rcF n es (k + 1) = (out, g)) := by
                rw [HSt.out, HF.out]
                unfold rcS
                rw [if_pos]
                · exact rfl
                · rw [HSB.out, h2]; simp; omega
              clear h2 HSt HSB
              generalize nat_ (ordL es) k = x at *
              generalize nat_ (ordL es) (k - 1) = y at *
              generalize ew es x = wx at *
              generalize ew es y = wy at *
              go_wp2
              refine ⟨⟨k + 1, out, A8, c8, g, by omega, by go_num, rfl, rfl, HQ.out, hg, hb⟩, by simp [intOf]; omega⟩
          · as_aux_lemma =>
              have hd2 : (((ew es (nat_ (ordL es) (k - 1)) : Nat) : Int) == ((ew es (nat_ (ordL es) k) : Nat) : Int)) = false := by simp; omega
              have HNB : Hid (rcB es (ordL es) k = false) := by rw [HSB.out]; simp [h2]; exact trivial
              clear h2 HSB
              have HQ : Hid (rcF n es (k + 1) = (out * foP n es g (ew es (nat_ (ordL es) k)), (List.range es.length).foldl (rcJ es (ew es (nat_ (ordL es) k))) g)) := by
                rw [HSt.out, HF.out]
                unfold rcS
                rw [HNB.out]
                exact rfl
              have hbQ := HB2.out k (by have := hel.out; omega) HNB.out
              rw [HF.out] at hbQ
              have HBQ : Hid (∀ q, q ≤ n → foQ n es g (ew es (nat_ (ordL es) k)) q ≤ 4611686018427387904) := hbQ
              have hbk := HB1.out (k + 1) (by have := hel.out; omega)
              rw [HQ.out] at hbk
              have hbk : out * foP n es g (ew es (nat_ (ordL es) k)) ≤ 4611686018427387904 := hbk
              have HFor := Lib.hid (RForests_c n _ m ce es A8 c8 g (ew es (nat_ (ordL es) k)) wr (he.below hbw) hN hn1 hg Hg2.out HBQ.out)
              have hmul : wrap64 ((out : Int) * (foP n es g (ew es (nat_ (ordL es) k)) : Int)) = ((out * foP n es g (ew es (nat_ (ordL es) k)) : Nat) : Int) := by rw [← Int.natCast_mul]; unfold wrap64; omega
              clear hbQ hbk HSt HNB
              generalize foP n es g (ew es (nat_ (ordL es) k)) = fo at *
              generalize out * fo = o2' at *
              have HMUL := Lib.hid hmul
              clear hmul
              generalize nat_ (ordL es) k = x at *
              generalize ew es x = wx at *
              go_wp2_with fail
              refine HFor.out.mono ?_
              rintro e w5 ⟨rfl, hb5⟩
              have hg5 := RdN.below hg hb5
              have hbw5 := hbw.trans (hb5.mono hbw.size)
              have hb35 := hb.trans (hb5.mono hb.size)
              clear HFor hlk hwx hg
              go_wp2
              go_loopw [12, 8] (fun i g8 wx' => ∃ (j : Nat) (A : Option Addr) (cA : Nat) (g' : List Nat), j ≤ m ∧ i = .int .i64 ((j : Nat) : Int) ∧ g8 = .slice A n cA ∧ RdN wx' A n g' ∧ (List.range j).foldl (rcJ es wx) g = g' ∧ (∀ x ∈ g', x < n) ∧ Below w5.heap.size w5 wx') (fun i _ _ => m - (intOf i).toNat)
              case atStart => exact ⟨0, A8, c8, g, Nat.zero_le _, rfl, rfl, hg5, rfl, Hg2.out, Below.refl _ _⟩
              case round =>
                obtain ⟨j, A, cA, g', hjm, rfl, rfl, hgr, hgf, hgl, hbr⟩ := hrel
                have HGF := Lib.hid hgf
                have HGL := Lib.hid hgl
                clear hgf hgl
                have hbwr := hbw5.trans (hbr.mono hbw5.size)
                by_cases hj : j < m
                · obtain ⟨hea, heb, hew⟩ := hN.2.2 j (by have := hel.out; omega)
                  obtain ⟨b4, o4, hEe2, _, ha1, hb1', hw1'⟩ := (he.below hbwr).at_ hj
                  injection hEe2 with hEe2; injection hEe2 with f2 f3; subst f2 f3
                  have HJS := Lib.hid (foldl_range (f := rcJ es wx) (a := g) (k := j))
                  have HJ := Lib.hid (show rcJ es wx g' j = if ew es j = wx then joinL g' (ed_ es j).a (ed_ es j).b else g' from rfl)
                  by_cases hw2 : ew es j = wx
                  · have hdw : (((ew es j : Nat) : Int) == (wx : Int)) = true := by simp [hw2]
                    have HG2 : Hid ((List.range (j + 1)).foldl (rcJ es wx) g = joinL g' (ed_ es j).a (ed_ es j).b) := by rw [HJS.out, HGF.out, HJ.out, if_pos hw2]; exact rfl
                    have HJn := Lib.hid (fun W h => rjoin_c A n cA g' (ed_ es j).a (ed_ es j).b W h (by omega) hea heb (fun i => by have := nat_lt_of HGL.out hn1 i; omega))
                    have HL2 := Lib.hid (joinL_lt HGL.out hn1 (ed_ es j).a (ed_ es j).b)
                    clear hw2 HJ HJS
                    generalize ew es j = wj at *
                    go_wp2
                    go_still_tail 11, (by kernel_rfl)
                    go_wp2_with fail
                    refine (HJn.out wr.drew (hgr.below (below_q wr 1))).mono ?_
                    rintro e w6 ⟨A6, c6, rfl, ho6, hb6⟩
                    have hbr6 : Below w5.heap.size w5 w6 := hbr.trans (((below_q wr 1).trans hb6).mono hbr.size)
                    have hr6 := ho6.rd
                    clear ho6 ha1 hb1' hw1'
                    go_wp2
                    refine ⟨⟨j + 1, A6, c6, _, by omega, by go_num, rfl, hr6, HG2.out, HL2.out, hbr6⟩, by simp [intOf]; omega⟩
                  · have hdw : (((ew es j : Nat) : Int) == (wx : Int)) = false := by simp; omega
                    have HG2 : Hid ((List.range (j + 1)).foldl (rcJ es wx) g = g') := by rw [HJS.out, HGF.out, HJ.out, if_neg hw2]; exact rfl
                    clear hw2 HJ HJS
                    generalize ew es j = wj at *
                    go_wp2
                    refine ⟨⟨j + 1, A, cA, g', by omega, by go_num, rfl, hgr, HG2.out, HGL.out, hbr⟩, by simp [intOf]; omega⟩
                · have hjm2 : m ≤ j := by omega
                  obtain rfl : j = m := by omega
                  have HQ2 : Hid (rcF n es (k + 1) = (o2', g')) := by rw [HQ.out, hel.out, HGF.out]; exact rfl
                  go_wp2
                  refine ⟨⟨k + 1, o2', A, cA, g', by omega, by go_num, by rw [HMUL.out], rfl, HQ2.out, hgr, hb35.trans (hbr.mono hb35.size)⟩, by simp [intOf]; omega⟩
        · as_aux_lemma =>
            have hk0 : k = 0 := by omega
            have HNB : Hid (rcB es (ordL es) k = false) := by rw [HSB.out]; simp; intro h; omega
            have hd1 : decide (0 < k) = false := by simp; omega
            clear h1 HSB hk0
            have HQ : Hid (rcF n es (k + 1) = (out * foP n es g (ew es (nat_ (ordL es) k)), (List.range es.length).foldl (rcJ es (ew es (nat_ (ordL es) k))) g)) := by
              rw [HSt.out, HF.out]
              unfold rcS
              rw [HNB.out]
              exact rfl
            have hbQ := HB2.out k (by have := hel.out; omega) HNB.out
            rw [HF.out] at hbQ
            have HBQ : Hid (∀ q, q ≤ n → foQ n es g (ew es (nat_ (ordL es) k)) q ≤ 4611686018427387904) := hbQ
            have hbk := HB1.out (k + 1) (by have := hel.out; omega)
            rw [HQ.out] at hbk
            have hbk : out * foP n es g (ew es (nat_ (ordL es) k)) ≤ 4611686018427387904 := hbk
            have HFor := Lib.hid (RForests_c n _ m ce es A8 c8 g (ew es (nat_ (ordL es) k)) wr (he.below hbw) hN hn1 hg Hg2.out HBQ.out)
            have hmul : wrap64 ((out : Int) * (foP n es g (ew es (nat_ (ordL es) k)) : Int)) = ((out * foP n es g (ew es (nat_ (ordL es) k)) : Nat) : Int) := by rw [← Int.natCast_mul]; unfold wrap64; omega
            clear hbQ hbk HSt HNB
            generalize foP n es g (ew es (nat_ (ordL es) k)) = fo at *
            generalize out * fo = o2' at *
            have HMUL := Lib.hid hmul
            clear hmul
            generalize nat_ (ordL es) k = x at *
            generalize ew es x = wx at *
            go_wp2_with fail
            refine HFor.out.mono ?_
            rintro e w5 ⟨rfl, hb5⟩
            have hg5 := RdN.below hg hb5
            have hbw5 := hbw.trans (hb5.mono hbw.size)
            have hb35 := hb.trans (hb5.mono hb.size)
            clear HFor hlk hwx hg
            go_wp2
            go_loopw [12, 8] (fun i g8 wx' => ∃ (j : Nat) (A : Option Addr) (cA : Nat) (g' : List Nat), j ≤ m ∧ i = .int .i64 ((j : Nat) : Int) ∧ g8 = .slice A n cA ∧ RdN wx' A n g' ∧ (List.range j).foldl (rcJ es wx) g = g' ∧ (∀ x ∈ g', x < n) ∧ Below w5.heap.size w5 wx') (fun i _ _ => m - (intOf i).toNat)
            case atStart => exact ⟨0, A8, c8, g, Nat.zero_le _, rfl, rfl, hg5, rfl, Hg2.out, Below.refl _ _⟩
            case round =>
              obtain ⟨j, A, cA, g', hjm, rfl, rfl, hgr, hgf, hgl, hbr⟩ := hrel
              have HGF := Lib.hid hgf
              have HGL := Lib.hid hgl
              clear hgf hgl
              have hbwr := hbw5.trans (hbr.mono hbw5.size)
              by_cases hj : j < m
              · obtain ⟨hea, heb, hew⟩ := hN.2.2 j (by have := hel.out; omega)
                obtain ⟨b4, o4, hEe2, _, ha1, hb1', hw1'⟩ := (he.below hbwr).at_ hj
                injection hEe2 with hEe2; injection hEe2 with f2 f3; subst f2 f3
                have HJS := Lib.hid (foldl_range (f := rcJ es wx) (a := g) (k := j))
                have HJ := Lib.hid (show rcJ es wx g' j = if ew es j = wx then joinL g' (ed_ es j).a (ed_ es j).b else g' from rfl)
                by_cases hw2 : ew es j = wx
                · have hdw : (((ew es j : Nat) : Int) == (wx : Int)) = true := by simp [hw2]
                  have HG2 : Hid ((List.range (j + 1)).foldl (rcJ es wx) g = joinL g' (ed_ es j).a (ed_ es j).b) := by rw [HJS.out, HGF.out, HJ.out, if_pos hw2]; exact rfl
                  have HJn := Lib.hid (fun W h => rjoin_c A n cA g' (ed_ es j).a (ed_ es j).b W h (by omega) hea heb (fun i => by have := nat_lt_of HGL.out hn1 i; omega))
                  have HL2 := Lib.hid (joinL_lt HGL.out hn1 (ed_ es j).a (ed_ es j).b)
                  clear hw2 HJ HJS
                  generalize ew es j = wj at *
                  go_wp2
                  go_still_tail 11, (by kernel_rfl)
                  go_wp2_with fail
                  refine (HJn.out wr.drew (hgr.below (below_q wr 1))).mono ?_
                  rintro e w6 ⟨A6, c6, rfl, ho6, hb6⟩
                  have hbr6 : Below w5.heap.size w5 w6 := hbr.trans (((below_q wr 1).trans hb6).mono hbr.size)
                  have hr6 := ho6.rd
                  clear ho6 ha1 hb1' hw1'
                  go_wp2
                  refine ⟨⟨j + 1, A6, c6, _, by omega, by go_num, rfl, hr6, HG2.out, HL2.out, hbr6⟩, by simp [intOf]; omega⟩
                · have hdw : (((ew es j : Nat) : Int) == (wx : Int)) = false := by simp; omega
                  have HG2 : Hid ((List.range (j + 1)).foldl (rcJ es wx) g = g') := by rw [HJS.out, HGF.out, HJ.out, if_neg hw2]; exact rfl
                  clear hw2 HJ HJS
                  generalize ew es j = wj at *
                  go_wp2
                  refine ⟨⟨j + 1, A, cA, g', by omega, by go_num, rfl, hgr, HG2.out, HGL.out, hbr⟩, by simp [intOf]; omega⟩
              · have hjm2 : m ≤ j := by omega
                obtain rfl : j = m := by omega
                have HQ2 : Hid (rcF n es (k + 1) = (o2', g')) := by rw [HQ.out, hel.out, HGF.out]; exact rfl
                go_wp2
                refine ⟨⟨k + 1, o2', A, cA, g', by omega, by go_num, by rw [HMUL.out], rfl, HQ2.out, hgr, hb35.trans (hbr.mono hb35.size)⟩, by simp [intOf]; omega⟩
      · as_aux_lemma =>
          obtain rfl : m = k := by omega
          have HR : Hid (rcV n es = out) := by rw [HV.out, hel.out, HF.out]; exact rfl
          go_wp2
          go_ret
          rw [HR.out]
          exact ⟨rfl, hbw⟩

end Go.Proofs.Ytpfbichomgojoaa
