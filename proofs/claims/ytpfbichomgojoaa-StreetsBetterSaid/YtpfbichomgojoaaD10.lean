/- Walk: StreetsBetter returns true. -/
import Derived.Test.YtpfbichomgojoaaG3
import Derived.Test.YtpfbichomgojoaaR1
import Derived.Test.YtpfbichomgojoaaH2
/- part G5 -/
namespace Go.Proofs.Ytpfbichomgojoaa

section
variable {n : Nat} {es : List Ed} {t : List Nat}
theorem treeI_nat {xs : List Int} (h : isTreeI n es xs = true) : xs = natI (xs.map Int.toNat) ∧ isTreeN n es (xs.map Int.toNat) = true := by
  have h0 := h
  unfold isTreeI at h
  simp only [Bool.and_eq_true] at h
  have hb := (toNat_back (ascI_iff.1 h.1.1)).1
  refine ⟨hb, ?_⟩
  unfold isTreeN natI
  rw [← hb]; exact h0
theorem opt_w (hn : Net n es) (hT : Tr n es t) (ho : Opt es t) : wsum es t = wsum es (firstL n es) := by
  have hok := tr_first hn hT
  have h1 := opt_le hn hT ho (first_tr hn hok)
  have h2 := first_le hn hT
  omega
theorem bet_cases (hn : Net n es) (hT : Tr n es t) {a b : Int} (h : BetS n es t a b) :
    (a = -1 ∧ b = -1 ∧ wsum es t = wsum es (firstL n es)) ∨
    ∃ o i : Nat, a = o ∧ b = i ∧ o ∈ t ∧ i ∉ t ∧ i < es.length ∧ Tr n es (swL t o i) ∧ wsum es (swL t o i) < wsum es t ∧ wsum es t ≠ wsum es (firstL n es) := by
  rcases h with ⟨ha, hb, hl⟩ | ⟨o, i, ha, hb, ho, hi, hlt⟩
  · refine .inl ⟨ha, hb, opt_w hn hT (opt_of_local hn hT fun x y hE => ?_)⟩
    have hy := (insN_iff hn hT.lt hE.1).2 hE
    obtain ⟨j, hj, hjx⟩ := List.mem_iff_getElem.1 hE.1
    obtain ⟨i, hi, hiy⟩ := List.mem_iff_getElem.1 hy
    have := hl j hj
    rw [nat_get hj, hjx] at this
    have := this i hi
    rw [nat_get hi, hiy] at this
    exact this
  · have hE := (insN_iff hn hT.lt ho).1 hi
    have hS := exch_tr hn hT hE
    have hw := wsum_swL (es := es) (inn := i) hT.nodup ho
    have hf := first_le hn hS
    exact .inr ⟨o, i, ha, hb, ho, hE.2.2.1, hE.2.1, hS, by omega, by omega⟩
end

end Go.Proofs.Ytpfbichomgojoaa

/- part R2 -/
namespace Go.Proofs.Ytpfbichomgojoaa
open Go.ChangeShapes Go.WideShapes Go.ChangeAt Go.RowKit Go.Deep

theorem cells46 : Try.prog.cellsOf 46 = 3 := by kernel_rfl
section
variable {H : Type} {enc : TypeId × Value → H} {w : World}
/-- A slice of numbers that came in. -/
theorem open_numbers {A : Option Addr} {m c : Nat} {d : DataW H} {p : List MemPlace} (h : DataW.Trod enc Try.prog w 0 (fun _ => true) true 24 (.slice A m c) d p) :
    ∃ xs, RdI w A m xs ∧ m ≤ c ∧ m ≤ 9223372036854775807 := by
  obtain ⟨fuel, hf⟩ := h
  rcases open_ints Try.underlying24 Try.underlying3 cells3 hf with ⟨hcs, _⟩ | ⟨a, len, cap, zs, hcs, _, hl, hm, hz, _, hcell, _⟩
  · simp [Value.cells] at hcs
    obtain ⟨rfl, rfl, rfl⟩ := hcs
    exact ⟨[], ⟨rfl, Cells.nil _ _⟩, Nat.le_refl _, by omega⟩
  · simp [Value.cells] at hcs
    obtain ⟨rfl, rfl, rfl⟩ := hcs
    have hz : zs.length = c := by simpa using hz
    have hm' : c ≤ 9223372036854775807 := hm
    refine ⟨zs.take m, ⟨by rw [List.length_take]; omega, ?_⟩, hl, by omega⟩
    obtain ⟨b, o, sp⟩ := a
    intro j hj
    rw [iv_length, List.length_take] at hj
    have hsp : sp = none := by
      have := World.cell?_spot (hcell 0 (by omega))
      simpa [Addr.add] using this
    subst hsp
    refine ⟨b, o, rfl, ?_⟩
    have hc := hcell j (by omega)
    rw [Addr.add_lit] at hc
    rw [hc, iv_get _ _ (by rw [List.length_take]; omega)]
    unfold int_
    rw [List.getD_eq_getElem?_getD, List.getD_eq_getElem?_getD, List.getElem?_take_of_lt (by omega)]
set_option maxRecDepth 100000 in
/-- An array of three numbers that came in. -/
theorem open_three {r : Reach} {b0 : Nat} {v : Value} {d : DataW H} {p : List MemPlace} (hv : Value.okWide Try.prog w r b0 46 v) (h : DataW.Trod enc Try.prog w 0 (fun _ => true) true 46 v d p) :
    ∃ x y z : Int, v = .agg #[.int .i64 x, .int .i64 y, .int .i64 z] := by
  have hv' : ∃ cs, v = .agg cs ∧ cs.size = Try.prog.cellsOf 46 := by
    simp only [Value.okWide, Try.underlying46] at hv
    obtain ⟨cs, h1, h2, _⟩ := hv
    exact ⟨cs, h1, h2⟩
  obtain ⟨cs, rfl, hsz⟩ := hv'
  obtain ⟨l⟩ := cs
  match l, hsz.trans cells46 with
  | [c0, c1, c2], _ =>
    obtain ⟨fuel, hf⟩ := h
    obtain ⟨xs, m, _, _, _, hxl, hfd⟩ := DataW.trod_array Try.underlying46 hf
    have f0 := hfd 0 (by omega)
    have f1 := hfd 1 (by omega)
    have f2 := hfd 2 (by omega)
    rw [cells3] at f0 f1 f2
    replace f0 : DataW.trod enc Try.prog w 0 (fun _ => true) true m 3 [c0] = xs[0]? := f0
    replace f1 : DataW.trod enc Try.prog w 0 (fun _ => true) true m 3 [c1] = xs[1]? := f1
    replace f2 : DataW.trod enc Try.prog w 0 (fun _ => true) true m 3 [c2] = xs[2]? := f2
    rw [List.getElem?_eq_getElem (by omega)] at f0 f1 f2
    obtain ⟨x, e0, _⟩ := DataW.trod_int Try.underlying3 f0
    obtain ⟨y, e1, _⟩ := DataW.trod_int Try.underlying3 f1
    obtain ⟨z, e2, _⟩ := DataW.trod_int Try.underlying3 f2
    simp only [List.cons.injEq, and_true] at e0 e1 e2
    subst e0 e1 e2
    exact ⟨x, y, z, rfl⟩
end

end Go.Proofs.Ytpfbichomgojoaa

/- part L10 -/
namespace Go.Proofs.Ytpfbichomgojoaa
open Go.RowKit




theorem mem_take_succ {t : List Nat} {r o : Nat} (h : r < t.length) : decide (o ∈ t.take (r + 1)) = (decide (o ∈ t.take r) || decide (nat_ t r = o)) := by
  rw [take_nat h, Bool.eq_iff_iff]
  simp only [List.mem_append, List.mem_singleton, Bool.or_eq_true, decide_eq_true_eq]
  exact ⟨fun h => h.imp id Eq.symm, fun h => h.imp id Eq.symm⟩
theorem rdN_of {w : World} {A : Option Addr} {n : Nat} {t : List Nat} (h : RdI w A n (natI t)) : RdN w A n t :=
  ⟨by have := h.1; simpa [natI] using this, by
    have := h.2
    unfold iv natI at this
    rw [List.map_map] at this
    exact this⟩

set_option maxHeartbeats 1000000 in
theorem LBetter_bad (n : Int) (A : Option Addr) (m c : Nat) (ss : List St) (B : Option Addr) (mt ct : Nat) (xs : List Int) (w : World) (hs : RdS w A m ss) (hmc : m ≤ c) (hm : m ≤ 9223372036854775807) (hxs : RdI w B mt xs) (hct : mt ≤ ct) (hmt : mt ≤ 9223372036854775807)
    (hb : netB n (ss.take 61) = false) :
    Calls Try.prog 10 #[.int .i64 n, .slice A m c, .slice B mt ct] w fun e w' => e = .returned (.bool true) ∧ Below w.heap.size w w' := by
  have HB := Lib.hid hb
  have hk : min m 61 ≤ 1000 := by omega
  have hl : min mt 20 ≤ 1000 := by omega
  have hl0 : (ss.take 61).length = min m 61 := by rw [List.length_take, hs.1]; omega
  have hy0 := hxs
  go_enter Try.func10, Try.ntmps10
  go_wp2_with fail
  refine (net_c A m c ss w hs hmc hm).mono ?_
  rintro e w1 ⟨A2, c2, rfl, ho2, hb1⟩
  have hs1 := ho2.rd
  clear ho2
  generalize min m 61 = k at *
  generalize ss.take 61 = S at *
  go_wp2_with fail
  refine (list_c B mt ct xs w1 (hxs.below hb1) hct hmt).mono ?_
  rintro e w2 ⟨B2, d2, rfl, ho2, hb2⟩
  have hx2 := ho2.rd
  clear ho2 hxs hy0 hs
  have hs2 := hs1.below hb2
  have hbb2 := hb1.trans (hb2.mono hb1.size)
  generalize min mt 20 = l at *
  generalize xs.take 20 = T at *
  clear hs1 hmc hm hct hmt
  go_wp2_with fail
  have he2 := hs2
  refine (Better_bad n A2 k c2 S B2 l d2 w2 he2 hb).mono ?_
  rintro e w3 ⟨rfl, hb3⟩
  have he3 := he2.below hb3
  have hx3 := hx2.below hb3
  have hbb3 := hbb2.trans (hb3.mono hbb2.size)
  go_wp2_with fail
  refine (RNet_c n A2 k c2 S w3 he3 hk).mono ?_
  rintro e w4 ⟨rfl, hb4⟩
  have he4 := he3.below hb4
  have hx4 := hx3.below hb4
  have hbb4 := hbb3.trans (hb4.mono hbb3.size)
  rw [netR_eq, hb]
  go_wp2_with fail
  refine (awake_c w4).mono ?_
  rintro e w5 ⟨rfl, hb5⟩
  have he5 := he4.below hb5
  have hx5 := hx4.below hb5
  have hbb5 := hbb4.trans (hb5.mono hbb4.size)
  go_wp2
  go_ret
  exact ⟨rfl, hbb5⟩

set_option maxHeartbeats 1000000 in
theorem LBetter_not (n : Nat) (A : Option Addr) (m c : Nat) (ss : List St) (es : List Ed) (B : Option Addr) (mt ct : Nat) (xs : List Int) (w : World) (hs : RdS w A m ss) (hmc : m ≤ c) (hm : m ≤ 9223372036854775807) (hxs : RdI w B mt xs) (hct : mt ≤ ct) (hmt : mt ≤ 9223372036854775807)
    (hS : ss.take 61 = es.map Ed.st) (hn : Net n es) (hb : isTreeI n es (xs.take 20) = false) :
    Calls Try.prog 10 #[.int .i64 (n : Int), .slice A m c, .slice B mt ct] w fun e w' => e = .returned (.bool true) ∧ Below w.heap.size w w' := by
  have hbP : isTreeP n es (xs.take 20) = false := by rw [isTreeP_eq hn, hb]
  have hk : min m 61 ≤ 1000 := by omega
  have hl : min mt 20 ≤ 1000 := by omega
  have hl0 : (ss.take 61).length = min m 61 := by rw [List.length_take, hs.1]; omega
  have hy0 := hxs
  go_enter Try.func10, Try.ntmps10
  go_wp2_with fail
  refine (net_c A m c ss w hs hmc hm).mono ?_
  rintro e w1 ⟨A2, c2, rfl, ho2, hb1⟩
  have hs1 := ho2.rd
  clear ho2
  generalize min m 61 = k at *
  generalize ss.take 61 = S at *
  go_wp2_with fail
  refine (list_c B mt ct xs w1 (hxs.below hb1) hct hmt).mono ?_
  rintro e w2 ⟨B2, d2, rfl, ho2, hb2⟩
  have hx2 := ho2.rd
  clear ho2 hxs hy0 hs
  have hs2 := hs1.below hb2
  have hbb2 := hb1.trans (hb2.mono hb1.size)
  generalize min mt 20 = l at *
  generalize xs.take 20 = T at *
  clear hs1 hmc hm hct hmt
  go_wp2_with fail
  subst hS
  rw [List.length_map] at hl0
  have he2 : RdE w2 A2 k es := hs2
  clear hs2
  refine (Better_not n A2 k c2 es B2 l d2 T w2 he2 hn hx2 hl hbP).mono ?_
  rintro e w3 ⟨rfl, hb3⟩
  have he3 := he2.below hb3
  have hx3 := hx2.below hb3
  have hbb3 := hbb2.trans (hb3.mono hbb2.size)
  go_wp2_with fail
  refine (RNet_c n A2 k c2 _ w3 he3 hk).mono ?_
  rintro e w4 ⟨rfl, hb4⟩
  have he4 := he3.below hb4
  have hx4 := hx3.below hb4
  have hbb4 := hbb3.trans (hb4.mono hbb3.size)
  rw [netR_eq, net_yes hn]
  go_wp2_with fail
  refine (RTree_c n A2 k c2 es B2 l d2 T w4 he4 hx4 hn hl).mono ?_
  rintro e w5 ⟨rfl, hb5⟩
  have he5 := he4.below hb5
  have hx5 := hx4.below hb5
  have hbb5 := hbb4.trans (hb5.mono hbb4.size)
  rw [hb]
  go_wp2_with fail
  refine (awake_c w5).mono ?_
  rintro e w6 ⟨rfl, hb6⟩
  have he6 := he5.below hb6
  have hx6 := hx5.below hb6
  have hbb6 := hbb5.trans (hb6.mono hbb5.size)
  go_wp2
  go_ret
  exact ⟨rfl, hbb6⟩

set_option maxHeartbeats 1000000 in
theorem LBetter_yes (n : Nat) (A : Option Addr) (m c : Nat) (ss : List St) (es : List Ed) (B : Option Addr) (mt ct : Nat) (xs : List Int) (t : List Nat) (w : World) (hs : RdS w A m ss) (hmc : m ≤ c) (hm : m ≤ 9223372036854775807) (hxs : RdI w B mt xs) (hct : mt ≤ ct) (hmt : mt ≤ 9223372036854775807)
    (hS : ss.take 61 = es.map Ed.st) (hn : Net n es) (hT : xs.take 20 = natI t) (htr : Tr n es t) :
    Calls Try.prog 10 #[.int .i64 (n : Int), .slice A m c, .slice B mt ct] w fun e w' => e = .returned (.bool true) ∧ Below w.heap.size w w' := by
  have hbI : isTreeN n es t = true := (isTreeN_iff hn).2 htr
  have hbP : isTreeP n es (natI t) = true := by rw [isTreeP_eq hn]; exact hbI
  have hlt := htr.lt
  have hok := tr_first hn htr
  have hflt : ∀ x ∈ firstL n es, x < es.length := fun x hx => treeP_lt x (mem_treeP.2 hx)
  have hfle : (firstL n es).length ≤ es.length := takL_length_le n es _
  have hk : min m 61 ≤ 1000 := by omega
  have hl : min mt 20 ≤ 1000 := by omega
  have hl0 : (ss.take 61).length = min m 61 := by rw [List.length_take, hs.1]; omega
  have hy0 := hxs
  go_enter Try.func10, Try.ntmps10
  go_wp2_with fail
  refine (net_c A m c ss w hs hmc hm).mono ?_
  rintro e w1 ⟨A2, c2, rfl, ho2, hb1⟩
  have hs1 := ho2.rd
  clear ho2
  generalize min m 61 = k at *
  generalize ss.take 61 = S at *
  go_wp2_with fail
  refine (list_c B mt ct xs w1 (hxs.below hb1) hct hmt).mono ?_
  rintro e w2 ⟨B2, d2, rfl, ho2, hb2⟩
  have hx2 := ho2.rd
  clear ho2 hxs hy0 hs
  have hs2 := hs1.below hb2
  have hbb2 := hb1.trans (hb2.mono hb1.size)
  generalize min mt 20 = l at *
  generalize xs.take 20 = T at *
  clear hs1 hmc hm hct hmt
  go_wp2_with fail
  subst hS
  rw [List.length_map] at hl0
  have he2 : RdE w2 A2 k es := hs2
  clear hs2
  subst hT
  have hx2 : RdN w2 B2 l t := rdN_of hx2
  have hlm : ∀ x ∈ t, x < k := by rw [← hl0]; exact hlt
  rw [hl0] at hflt hfle
  refine (Better_c n A2 k c2 es B2 l d2 t w2 he2 hn hx2 hl hlm hbP).mono ?_
  rintro e w3 ⟨⟨a, b, rfl, hB⟩, hb3⟩
  have he3 := he2.below hb3
  have hx3 := hx2.below hb3
  have hbb3 := hbb2.trans (hb3.mono hbb2.size)
  have hcase := bet_cases hn htr hB
  clear hB
  go_wp2_with fail
  refine (RNet_c n A2 k c2 _ w3 he3 hk).mono ?_
  rintro e w4 ⟨rfl, hb4⟩
  have he4 := he3.below hb4
  have hx4 := hx3.below hb4
  have hbb4 := hbb3.trans (hb4.mono hbb3.size)
  rw [netR_eq, net_yes hn]
  go_wp2_with fail
  refine (RTree_n n A2 k c2 es B2 l d2 t w4 he4 hx4 hn hl).mono ?_
  rintro e w5 ⟨rfl, hb5⟩
  have he5 := he4.below hb5
  have hx5 := hx4.below hb5
  have hbb5 := hbb4.trans (hb5.mono hbb4.size)
  rw [hbI]
  go_wp2_with fail
  refine (First_c n A2 k c2 es w5 he5 hn).mono ?_
  rintro e w6 ⟨A6, c6, rfl, ho6, hb6⟩
  have he6 := he5.below hb6
  have hx6 := hx5.below hb6
  have hbb6 := hbb5.trans (hb6.mono hbb5.size)
  have hf6 := ho6.rd
  clear ho6
  rw [hok]
  generalize hfl : (firstL n es).length = fl at *
  go_wp2_with fail
  refine (Weight_c n A2 k c2 es B2 l d2 t w6 he6 hx6 hn hl hlm).mono ?_
  rintro e w7 ⟨rfl, rfl⟩
  go_wp2_with fail
  refine (Weight_c n A2 k c2 es A6 fl c6 (firstL n es) w6 he6 hf6 hn (by omega) hflt).mono ?_
  rintro e w7 ⟨rfl, rfl⟩
  rcases hcase with ⟨rfl, rfl, hw⟩ | ⟨o, i, rfl, rfl, hot, hit, hi, hS, hlt2, hne⟩
  · as_aux_lemma =>
      rw [hw]
      generalize ((wsum es (firstL n es) : Nat) : Int) = wf at *
      have hd : (wf == wf) = true := by simp
      go_wp2_with fail
      refine (awake_c w6).mono ?_
      rintro e w7 ⟨rfl, hb7⟩
      have he7 := he6.below hb7
      have hx7 := hx6.below hb7
      have hbb7 := hbb6.trans (hb7.mono hbb6.size)
      go_wp2
      go_ret
      exact ⟨rfl, hbb7⟩
  · skip
    have hd : (((wsum es t : Nat) : Int) == ((wsum es (firstL n es) : Nat) : Int)) = false := by simp; omega
    generalize ((wsum es (firstL n es) : Nat) : Int) = wf at *
    have HL := Lib.hid hlt2
    clear hlt2 hne
    have HT := Lib.hid hot
    have HI := Lib.hid hit
    rw [hl0] at hi
    clear hlt hlm hflt hfle hfl hf6
    go_wp2
    go_loop [14, 15, 16] (fun p q j => ∃ r : Nat, r ≤ l ∧ j = .int .i64 ((r : Nat) : Int) ∧ q = .bool true ∧ p = .bool (decide (o ∈ t.take r))) (fun _ _ i => l - (intOf i).toNat)
    case atStart => exact ⟨0, Nat.zero_le _, rfl, rfl, by simp⟩
    case round =>
      obtain ⟨r, hr, rfl, rfl, rfl⟩ := hrel
      by_cases hrl : r < l
      · have hrt : r < t.length := by rw [hx6.1]; exact hrl
        obtain ⟨b1, o1, rfl, _, h1⟩ := hx6.at_ hrl
        have HK := Lib.hid (mem_take_succ (o := o) hrt)
        have hnp : nat_ t r ≠ i := fun e => HI.out (e ▸ nat_mem hrt)
        clear hrt hot hit
        generalize nat_ t r = p at *
        have hd13 : (((p : Nat) : Int) != ((i : Nat) : Int)) = true := by simp; omega
        clear hnp
        cases hin : decide (o ∈ t.take r) with
        | true =>
          have HN := Lib.hid hin
          clear hin
          go_wp2
          exact ⟨⟨r + 1, by omega, by go_num, rfl, by rw [HK.out, HN.out]; rfl⟩, by simp [intOf]; omega⟩
        | false =>
          have HN := Lib.hid hin
          clear hin
          by_cases hpo : p = o
          · have hd12 : (((p : Nat) : Int) == ((o : Nat) : Int)) = true := by simp; omega
            have HP := Lib.hid hpo
            clear hpo
            go_wp2
            exact ⟨⟨r + 1, by omega, by go_num, rfl, by rw [HK.out, HN.out, decide_eq_true HP.out]; rfl⟩, by simp [intOf]; omega⟩
          · have hd12 : (((p : Nat) : Int) == ((o : Nat) : Int)) = false := by simp; omega
            have HP := Lib.hid hpo
            clear hpo
            go_wp2
            exact ⟨⟨r + 1, by omega, by go_num, rfl, by rw [HK.out, HN.out, decide_eq_false HP.out]; rfl⟩, by simp [intOf]; omega⟩
      · obtain rfl : r = l := by omega
        rw [List.take_of_length_le (by rw [hx6.1]; exact Nat.le_refl _), decide_eq_true HT.out]
        have hn16 := hn.n16
        have hSl := hS.len
        have hSt := hS.lt
        have htt := htr.lt
        rw [hl0] at hSt htt
        have HS := Lib.hid ((isTreeN_iff hn).2 hS)
        have hlx : (swL t o i).length ≤ 1000 := by omega
        clear hx2 hx3 hx4 hx5 he2 he3 he4 he5 hSl hS htr hot hit hbI hbP hok hb3 hb4 hb5 hb6 hbb2 hbb3 hbb4 hbb5
        go_wp2_with fail
        refine (Swapped_c B2 r d2 t o i w6 hx6 hl).mono ?_
        rintro e w7 ⟨A7, c7, rfl, ho7, hb7⟩
        have he7 := he6.below hb7
        have hx7 := hx6.below hb7
        have hbb7 := hbb6.trans (hb7.mono hbb6.size)
        have hw7 := ho7.rd
        clear ho7
        generalize hsw : swL t o i = sw at *
        generalize hswl : sw.length = swl at *
        clear hswl hsw
        go_wp2_with fail
        refine (RTree_n n A2 k c2 es A7 swl c7 sw w7 he7 hw7 hn hlx).mono ?_
        rintro e w8 ⟨rfl, hb8⟩
        have he8 := he7.below hb8
        have hx8 := hx7.below hb8
        have hw8 := hw7.below hb8
        have hbb8 := hbb7.trans (hb8.mono hbb7.size)
        rw [HS.out]
        go_wp2_with fail
        refine (Weight_c n A2 k c2 es A7 swl c7 sw w8 he8 hw8 hn hlx hSt).mono ?_
        rintro e w9 ⟨rfl, rfl⟩
        go_wp2_with fail
        refine (Weight_c n A2 k c2 es B2 r d2 t w8 he8 hx8 hn hl htt).mono ?_
        rintro e w9 ⟨rfl, rfl⟩
        have hlt3 : ((wsum es sw : Nat) : Int) < ((wsum es t : Nat) : Int) := by have := HL.out; omega
        clear hd
        generalize ((wsum es sw : Nat) : Int) = ws at *
        generalize ((wsum es t : Nat) : Int) = wt at *
        go_wp2_with fail
        refine (awake_c w8).mono ?_
        rintro e w9 ⟨rfl, hb9⟩
        have hbb9 := hbb8.trans (hb9.mono hbb8.size)
        go_wp2
        go_ret
        exact ⟨rfl, hbb9⟩

theorem LBetter_true (n : Int) (A : Option Addr) (m c : Nat) (ss : List St) (B : Option Addr) (mt ct : Nat) (xs : List Int) (w : World) (hs : RdS w A m ss) (hmc : m ≤ c) (hm : m ≤ 9223372036854775807) (hxs : RdI w B mt xs) (hct : mt ≤ ct) (hmt : mt ≤ 9223372036854775807) :
    Calls Try.prog 10 #[.int .i64 n, .slice A m c, .slice B mt ct] w fun e w' => e = .returned (.bool true) ∧ Below w.heap.size w w' := by
  cases hb : netB n (ss.take 61) with
  | false => exact LBetter_bad n A m c ss B mt ct xs w hs hmc hm hxs hct hmt hb
  | true =>
    obtain ⟨n', es, rfl, hS, hn⟩ := net_of hb
    cases ht : isTreeI n' es (xs.take 20) with
    | false => exact LBetter_not n' A m c ss es B mt ct xs w hs hmc hm hxs hct hmt hS hn ht
    | true =>
      obtain ⟨h1, h2⟩ := treeI_nat ht
      exact LBetter_yes n' A m c ss es B mt ct xs _ w hs hmc hm hxs hct hmt hS hn h1 ((isTreeN_iff hn).1 h2)

end Go.Proofs.Ytpfbichomgojoaa
