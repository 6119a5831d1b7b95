/- Walk: StreetsGroups returns true. -/
import Derived.Test.YtpfbichomgojoaaG3
import Derived.Test.YtpfbichomgojoaaR1
import Derived.Test.YtpfbichomgojoaaH2
/- part G4 -/
namespace Go.Proofs.Ytpfbichomgojoaa

section
variable {n : Nat} {es : List Ed}
theorem nar_go {u v : Nat} : ∀ (l g : List Nat) (wt : Nat), nat_ g u ≠ nat_ g v → narGo es u v l g wt = rnarGo es u v l g := by
  intro l
  induction l with
  | nil => intro g wt h; unfold narGo rnarGo; rw [if_neg h]
  | cons k l ih =>
    intro g wt h
    unfold narGo rnarGo
    rw [if_neg h]
    by_cases h' : nat_ (joinL g (ed_ es k).a (ed_ es k).b) u = nat_ (joinL g (ed_ es k).a (ed_ es k).b) v
    · rw [if_pos h']
      cases l <;> (unfold narGo; rw [if_pos h'])
    · rw [if_neg h', ih _ _ h']
theorem nar_eq {u v : Nat} (hu : u < n) (hv : v < n) : narP n es u v = rnar n es u v := by
  unfold narP rnar
  by_cases h : u = v
  · subst h
    rw [if_pos rfl]
    cases ordL es <;> (unfold narGo; rw [if_pos rfl])
  · rw [if_neg h]
    exact nar_go _ _ _ (by rw [nat_range hu, nat_range hv]; exact h)
theorem keepGo_eq {T : List Nat} {q : Nat} : ∀ (os acc : List Nat), acc.length ≤ q → keepGo T q os acc = acc ++ (os.filter (fun o => hasN T o)).take (q - acc.length) := by
  intro os
  induction os with
  | nil => intro acc _; simp [keepGo]
  | cons o os ih =>
    intro acc h
    unfold keepGo
    by_cases hq : acc.length < q
    · rw [if_pos hq]
      cases ho : hasN T o with
      | true =>
        rw [if_pos rfl, ih _ (by simp; omega), List.filter_cons_of_pos ho, List.length_append, List.length_singleton]
        obtain ⟨d, hd⟩ : ∃ d, q - acc.length = d + 1 := ⟨q - acc.length - 1, by omega⟩
        rw [hd, List.take_succ_cons, List.append_assoc, show q - (acc.length + 1) = d by omega]; rfl
      | false =>
        rw [if_neg (by simp), ih _ h, List.filter_cons_of_neg (by rw [ho]; simp)]
    · rw [if_neg hq, show q - acc.length = 0 by omega]; simp
theorem kruT_filter {o : List Nat} (h : o.Nodup) : kruT n es o = o.filter (fun x => decide (x ∈ kruT n es o)) := by
  induction o using snoc_ind with
  | h0 => rfl
  | h1 l x ih =>
    have hl : l.Nodup := (List.nodup_append.1 h).1
    have hx : x ∉ l := fun hm => (List.nodup_append.1 h).2.2 x hm x (by simp) rfl
    have hs := ih hl
    have hsub : ∀ z ∈ kruT n es l, z ∈ l := fun z hz => by rw [hs] at hz; exact (List.mem_filter.1 hz).1
    have hxk : x ∉ kruT n es l := fun hm => hx (hsub x hm)
    rw [List.filter_append]
    by_cases hc : nat_ (kruG n es l) (ed_ es x).a = nat_ (kruG n es l) (ed_ es x).b
    · rw [kruT_snoc_no hc]
      rw [← hs, List.filter_cons_of_neg (by simpa using hxk)]; simp
    · rw [kruT_snoc_yes hc]
      have : l.filter (fun z => decide (z ∈ kruT n es l ++ [x])) = l.filter (fun z => decide (z ∈ kruT n es l)) := List.filter_congr fun z hz => by
        rw [decide_eq_decide, List.mem_append, List.mem_singleton]
        exact ⟨fun h => h.elim id fun e => absurd (e ▸ hz) hx, .inl⟩
      rw [this, ← hs, List.filter_cons_of_pos (by simp)]; simp
theorem insL_perm (out : List Nat) (i : Nat) : (insL es out i).Perm (i :: out) := by
  unfold insL
  conv => rhs; rw [← List.takeWhile_append_dropWhile (p := fun j => decide (ew es j ≤ ew es i)) (l := out)]
  exact List.perm_middle
theorem ordK_nodup (k : Nat) : (ordK es k).Nodup := by
  induction k with
  | zero => exact List.nodup_nil
  | succ k ih => rw [ordK_succ, (insL_perm _ _).nodup_iff]; exact List.nodup_cons.2 ⟨fun h => by rw [ordK_mem] at h; omega, ih⟩
theorem keep_eq (k : Nat) : keepL n es k = (treeP n es).take (n - k) := by
  unfold keepL
  rw [keepGo_eq _ _ (Nat.zero_le _), List.nil_append, List.length_nil, Nat.sub_zero]
  congr 1
  unfold treeP
  rw [kruT_filter (n := n) (es := es) (o := ordL es) (ordK_nodup _)]
  refine List.filter_congr fun x _ => ?_
  rw [Bool.eq_iff_iff, decide_eq_true_eq, hasN_iff, mem_firstL]
theorem grp_eq (k : Nat) : grpG n es k = rgrpG n es k := by
  unfold grpG rgrpG
  rw [keep_eq, takG_kru fun x hx => treeP_lt x (List.mem_of_mem_take hx)]
end

end Go.Proofs.Ytpfbichomgojoaa

/- part R2 -/
namespace Go.Proofs.Ytpfbichomgojoaa
open Go.ChangeShapes Go.WideShapes Go.ChangeAt Go.RowKit Go.Deep

theorem cells46 : Try.prog.cellsOf 46 = 3 := by kernel_rfl
section
variable {H : Type} {enc : TypeId × Value → H} {w : World}
/-- A slice of numbers that came in. -/
theorem open_numbers {A : Option Addr} {m c : Nat} {d : DataW H} {p : List MemPlace} (h : DataW.Trod enc Try.prog w 0 (fun _ => true) true 24 (.slice A m c) d p) :
    ∃ xs, RdI w A m xs ∧ m ≤ c ∧ m ≤ 9223372036854775807 := by
  obtain ⟨fuel, hf⟩ := h
  rcases open_ints Try.underlying24 Try.underlying3 cells3 hf with ⟨hcs, _⟩ | ⟨a, len, cap, zs, hcs, _, hl, hm, hz, _, hcell, _⟩
  · simp [Value.cells] at hcs
    obtain ⟨rfl, rfl, rfl⟩ := hcs
    exact ⟨[], ⟨rfl, Cells.nil _ _⟩, Nat.le_refl _, by omega⟩
  · simp [Value.cells] at hcs
    obtain ⟨rfl, rfl, rfl⟩ := hcs
    have hz : zs.length = c := by simpa using hz
    have hm' : c ≤ 9223372036854775807 := hm
    refine ⟨zs.take m, ⟨by rw [List.length_take]; omega, ?_⟩, hl, by omega⟩
    obtain ⟨b, o, sp⟩ := a
    intro j hj
    rw [iv_length, List.length_take] at hj
    have hsp : sp = none := by
      have := World.cell?_spot (hcell 0 (by omega))
      simpa [Addr.add] using this
    subst hsp
    refine ⟨b, o, rfl, ?_⟩
    have hc := hcell j (by omega)
    rw [Addr.add_lit] at hc
    rw [hc, iv_get _ _ (by rw [List.length_take]; omega)]
    unfold int_
    rw [List.getD_eq_getElem?_getD, List.getD_eq_getElem?_getD, List.getElem?_take_of_lt (by omega)]
set_option maxRecDepth 100000 in
/-- An array of three numbers that came in. -/
theorem open_three {r : Reach} {b0 : Nat} {v : Value} {d : DataW H} {p : List MemPlace} (hv : Value.okWide Try.prog w r b0 46 v) (h : DataW.Trod enc Try.prog w 0 (fun _ => true) true 46 v d p) :
    ∃ x y z : Int, v = .agg #[.int .i64 x, .int .i64 y, .int .i64 z] := by
  have hv' : ∃ cs, v = .agg cs ∧ cs.size = Try.prog.cellsOf 46 := by
    simp only [Value.okWide, Try.underlying46] at hv
    obtain ⟨cs, h1, h2, _⟩ := hv
    exact ⟨cs, h1, h2⟩
  obtain ⟨cs, rfl, hsz⟩ := hv'
  obtain ⟨l⟩ := cs
  match l, hsz.trans cells46 with
  | [c0, c1, c2], _ =>
    obtain ⟨fuel, hf⟩ := h
    obtain ⟨xs, m, _, _, _, hxl, hfd⟩ := DataW.trod_array Try.underlying46 hf
    have f0 := hfd 0 (by omega)
    have f1 := hfd 1 (by omega)
    have f2 := hfd 2 (by omega)
    rw [cells3] at f0 f1 f2
    replace f0 : DataW.trod enc Try.prog w 0 (fun _ => true) true m 3 [c0] = xs[0]? := f0
    replace f1 : DataW.trod enc Try.prog w 0 (fun _ => true) true m 3 [c1] = xs[1]? := f1
    replace f2 : DataW.trod enc Try.prog w 0 (fun _ => true) true m 3 [c2] = xs[2]? := f2
    rw [List.getElem?_eq_getElem (by omega)] at f0 f1 f2
    obtain ⟨x, e0, _⟩ := DataW.trod_int Try.underlying3 f0
    obtain ⟨y, e1, _⟩ := DataW.trod_int Try.underlying3 f1
    obtain ⟨z, e2, _⟩ := DataW.trod_int Try.underlying3 f2
    simp only [List.cons.injEq, and_true] at e0 e1 e2
    subst e0 e1 e2
    exact ⟨x, y, z, rfl⟩
end

end Go.Proofs.Ytpfbichomgojoaa

/- part L12 -/
namespace Go.Proofs.Ytpfbichomgojoaa
open Go.RowKit





theorem rd_here {w : World} {b n : Nat} {xs : List Int} (h : RdI w (some ⟨b, 0, none⟩) n xs) {j : Nat} {x : Int} (hj : xs[j]? = some x) : w.cell? ⟨b, j, none⟩ = some (.int .i64 x) := by
  obtain ⟨b', o, e, _, hc⟩ := h.2.at_ (k := j) (v := .int .i64 x) (by simp [iv, hj])
  injection e with e
  injection e with e1 e2
  subst e1 e2
  rw [← hc, Nat.zero_add]



set_option maxHeartbeats 1000000 in
set_option maxRecDepth 100000 in
theorem LGroups_bad (n : Int) (A : Option Addr) (m c : Nat) (ss : List St) (x y z : Int) (w : World) (hs : RdS w A m ss) (hmc : m ≤ c) (hm : m ≤ 9223372036854775807) (hb : netB n (ss.take 61) = false) :
    Calls Try.prog 12 #[.int .i64 n, .slice A m c, .agg #[.int .i64 x, .int .i64 y, .int .i64 z]] w fun e w' => e = .returned (.bool true) ∧ Below w.heap.size w w' := by
  have HB := Lib.hid hb
  have hk : min m 61 ≤ 1000 := by omega
  have hl0 : (ss.take 61).length = min m 61 := by rw [List.length_take, hs.1]; omega
  go_enter Try.func12, Try.ntmps12
  go_wp2_with fail
  generalize hW : World.alloc w _ = w1
  have hb1 : Below w.heap.size w w1 := by rw [← hW]; exact below_one' w _
  have hx1 : RdI w1 (some ⟨w.heap.size, 0, none⟩) 3 [x, y, z] := by rw [← hW]; exact ⟨rfl, cells_list w (iv [x, y, z]) 46⟩
  clear hW
  refine (net_c A m c ss w1 (hs.below hb1) hmc hm).mono ?_
  rintro e w2 ⟨A2, c2, rfl, ho2, hb2⟩
  have hs2 := ho2.rd
  clear ho2
  have hbb2 := hb1.trans (hb2.mono hb1.size)
  have hx2 := hx1.below hb2
  clear hx1 hs
  generalize min m 61 = k at *
  generalize ss.take 61 = S at *
  have hc0 : w2.cell? ⟨w.heap.size, 0, none⟩ = some (.int .i64 x) := rd_here hx2 (j := 0) rfl
  have hc1 : w2.cell? ⟨w.heap.size, 1, none⟩ = some (.int .i64 y) := rd_here hx2 (j := 1) rfl
  have hc2 : w2.cell? ⟨w.heap.size, 2, none⟩ = some (.int .i64 z) := rd_here hx2 (j := 2) rfl
  clear hx2
  go_wp2_with fail
  go_quiet (fail)
  have hq := drewN_below (Below.refl w2.heap.size w2) nq
  generalize hW : w2.drewN nq = w3 at *
  clear hW
  have hs3 := hs2.below hq
  have hbb3 := hbb2.trans (hq.mono hbb2.size)
  clear hs2 hc0 hc1 hc2 hmc hm hq hbb2 hb2
  go_wp2_with fail
  have he3 := hs3
  refine (Narrow_bad n A2 k c2 S x y w3 he3 hb).mono ?_
  rintro e w4 ⟨rfl, hb4⟩
  have he4 := he3.below hb4
  have hbb4 := hbb3.trans (hb4.mono hbb3.size)
  go_wp2_with fail
  refine (Groups_bad n A2 k c2 S z w4 he4 hb).mono ?_
  rintro e w5 ⟨rfl, hb5⟩
  have he5 := he4.below hb5
  have hbb5 := hbb4.trans (hb5.mono hbb4.size)
  go_wp2_with fail
  refine (RNet_c n A2 k c2 S w5 he5 hk).mono ?_
  rintro e w6 ⟨rfl, hb6⟩
  have he6 := he5.below hb6
  have hbb6 := hbb5.trans (hb6.mono hbb5.size)
  rw [netR_eq, hb]
  go_wp2_with fail
  refine (awake_c w6).mono ?_
  rintro e w7 ⟨rfl, hb7⟩
  have he7 := he6.below hb7
  have hbb7 := hbb6.trans (hb7.mono hbb6.size)
  go_wp2
  go_ret
  exact ⟨rfl, hbb7⟩

set_option maxHeartbeats 2000000 in
set_option maxRecDepth 100000 in
theorem LGroups_out1 (n : Nat) (A : Option Addr) (m c : Nat) (ss : List St) (es : List Ed) (x y z : Int) (w : World) (hs : RdS w A m ss) (hmc : m ≤ c) (hm : m ≤ 9223372036854775807) (hS : ss.take 61 = es.map Ed.st) (hn : Net n es) (hz : inR z 1 (n : Int) = false) (z0 : z < 1) :
    Calls Try.prog 12 #[.int .i64 (n : Int), .slice A m c, .agg #[.int .i64 x, .int .i64 y, .int .i64 z]] w fun e w' => e = .returned (.bool true) ∧ Below w.heap.size w w' := by
  have hk : min m 61 ≤ 1000 := by omega
  have hl0 : (ss.take 61).length = min m 61 := by rw [List.length_take, hs.1]; omega
  go_enter Try.func12, Try.ntmps12
  go_wp2_with fail
  generalize hW : World.alloc w _ = w1
  have hb1 : Below w.heap.size w w1 := by rw [← hW]; exact below_one' w _
  have hx1 : RdI w1 (some ⟨w.heap.size, 0, none⟩) 3 [x, y, z] := by rw [← hW]; exact ⟨rfl, cells_list w (iv [x, y, z]) 46⟩
  clear hW
  refine (net_c A m c ss w1 (hs.below hb1) hmc hm).mono ?_
  rintro e w2 ⟨A2, c2, rfl, ho2, hb2⟩
  have hs2 := ho2.rd
  clear ho2
  have hbb2 := hb1.trans (hb2.mono hb1.size)
  have hx2 := hx1.below hb2
  clear hx1 hs
  generalize min m 61 = k at *
  generalize ss.take 61 = S at *
  have hc0 : w2.cell? ⟨w.heap.size, 0, none⟩ = some (.int .i64 x) := rd_here hx2 (j := 0) rfl
  have hc1 : w2.cell? ⟨w.heap.size, 1, none⟩ = some (.int .i64 y) := rd_here hx2 (j := 1) rfl
  have hc2 : w2.cell? ⟨w.heap.size, 2, none⟩ = some (.int .i64 z) := rd_here hx2 (j := 2) rfl
  clear hx2
  go_wp2_with fail
  go_quiet (fail)
  have hq := drewN_below (Below.refl w2.heap.size w2) nq
  generalize hW : w2.drewN nq = w3 at *
  clear hW
  have hs3 := hs2.below hq
  have hbb3 := hbb2.trans (hq.mono hbb2.size)
  clear hs2 hc0 hc1 hc2 hmc hm hq hbb2 hb2
  subst hS
  rw [List.length_map] at hl0
  have he3 : RdE w3 A2 k es := hs3
  clear hs3
  by_cases ho : (inR x 0 ((n : Int) - 1) && inR y 0 ((n : Int) - 1)) = false
  · as_aux_lemma =>
      go_wp2_with fail
      refine (Narrow_out n A2 k c2 es x y w3 he3 hn ho).mono ?_
      rintro e w4 ⟨rfl, hb4⟩
      have he4 := he3.below hb4
      have hbb4 := hbb3.trans (hb4.mono hbb3.size)
      go_wp2_with fail
      refine (Groups_out n A2 k c2 es z w4 he4 hn hz).mono ?_
      rintro e w5 ⟨rfl, hb5⟩
      have he5 := he4.below hb5
      have hbb5 := hbb4.trans (hb5.mono hbb4.size)
      go_wp2_with fail
      refine (RNet_c n A2 k c2 _ w5 he5 hk).mono ?_
      rintro e w6 ⟨rfl, hb6⟩
      have he6 := he5.below hb6
      have hbb6 := hbb5.trans (hb6.mono hbb5.size)
      rw [netR_eq, net_yes hn]
      by_cases u0 : x < 0
      · go_wp2_with fail
        refine (awake_c w6).mono ?_
        rintro e w7 ⟨rfl, hb7⟩
        have he7 := he6.below hb7
        have hbb7 := hbb6.trans (hb7.mono hbb6.size)
        go_wp2
        go_ret
        exact ⟨rfl, hbb7⟩
      · by_cases u1 : (n : Int) ≤ x
        · go_wp2_with fail
          refine (awake_c w6).mono ?_
          rintro e w7 ⟨rfl, hb7⟩
          have he7 := he6.below hb7
          have hbb7 := hbb6.trans (hb7.mono hbb6.size)
          go_wp2
          go_ret
          exact ⟨rfl, hbb7⟩
        · by_cases v0 : y < 0
          · go_wp2_with fail
            refine (awake_c w6).mono ?_
            rintro e w7 ⟨rfl, hb7⟩
            have he7 := he6.below hb7
            have hbb7 := hbb6.trans (hb7.mono hbb6.size)
            go_wp2
            go_ret
            exact ⟨rfl, hbb7⟩
          · have v1 : (n : Int) ≤ y := by
              refine Classical.byContradiction fun h => ?_
              have h1 : inR x 0 ((n : Int) - 1) = true := (inR_iff _ _ _).2 (by omega)
              have h2 : inR y 0 ((n : Int) - 1) = true := (inR_iff _ _ _).2 (by omega)
              rw [h1, h2] at ho; cases ho
            go_wp2_with fail
            refine (awake_c w6).mono ?_
            rintro e w7 ⟨rfl, hb7⟩
            have he7 := he6.below hb7
            have hbb7 := hbb6.trans (hb7.mono hbb6.size)
            go_wp2
            go_ret
            exact ⟨rfl, hbb7⟩
  · obtain ⟨u, v, rfl, rfl, hu, hv⟩ : ∃ u v : Nat, x = (u : Int) ∧ y = (v : Int) ∧ u < n ∧ v < n := by
      simp only [Bool.not_eq_false, Bool.and_eq_true, inR_iff] at ho
      exact ⟨x.toNat, y.toNat, by omega, by omega, by omega, by omega⟩
    have HNR := Lib.hid (nar_eq (es := es) hu hv)
    cases hr : rnar n es u v with
    | none =>
      as_aux_lemma =>
        have HR := Lib.hid hr
        clear hr
        go_wp2_with fail
        refine (Narrow_c n A2 k c2 es u v w3 he3 hn hu hv).mono ?_
        rintro e w4 ⟨rfl, hb4⟩
        have he4 := he3.below hb4
        have hbb4 := hbb3.trans (hb4.mono hbb3.size)
        rw [HNR.out, HR.out]
        unfold narV
        go_wp2_with fail
        refine (Groups_out n A2 k c2 es z w4 he4 hn hz).mono ?_
        rintro e w5 ⟨rfl, hb5⟩
        have he5 := he4.below hb5
        have hbb5 := hbb4.trans (hb5.mono hbb4.size)
        go_wp2_with fail
        refine (RNet_c n A2 k c2 _ w5 he5 hk).mono ?_
        rintro e w6 ⟨rfl, hb6⟩
        have he6 := he5.below hb6
        have hbb6 := hbb5.trans (hb6.mono hbb5.size)
        rw [netR_eq, net_yes hn]
        go_wp2_with fail
        refine (RNarrow_c n A2 k c2 es u v w6 he6 hn hu hv).mono ?_
        rintro e w7 ⟨rfl, hb7⟩
        have he7 := he6.below hb7
        have hbb7 := hbb6.trans (hb7.mono hbb6.size)
        rw [HR.out]
        unfold someI
        rw [Option.isSome_none]
        go_wp2_with fail
        refine (awake_c w7).mono ?_
        rintro e w8 ⟨rfl, hb8⟩
        have he8 := he7.below hb8
        have hbb8 := hbb7.trans (hb8.mono hbb7.size)
        go_wp2
        go_ret
        exact ⟨rfl, hbb8⟩
    | some nw =>
      as_aux_lemma =>
        have HR := Lib.hid hr
        clear hr
        have hdn : ((nw : Int) != (nw : Int)) = false := by simp
        go_wp2_with fail
        refine (Narrow_c n A2 k c2 es u v w3 he3 hn hu hv).mono ?_
        rintro e w4 ⟨rfl, hb4⟩
        have he4 := he3.below hb4
        have hbb4 := hbb3.trans (hb4.mono hbb3.size)
        rw [HNR.out, HR.out]
        unfold narV
        go_wp2_with fail
        refine (Groups_out n A2 k c2 es z w4 he4 hn hz).mono ?_
        rintro e w5 ⟨rfl, hb5⟩
        have he5 := he4.below hb5
        have hbb5 := hbb4.trans (hb5.mono hbb4.size)
        go_wp2_with fail
        refine (RNet_c n A2 k c2 _ w5 he5 hk).mono ?_
        rintro e w6 ⟨rfl, hb6⟩
        have he6 := he5.below hb6
        have hbb6 := hbb5.trans (hb6.mono hbb5.size)
        rw [netR_eq, net_yes hn]
        go_wp2_with fail
        refine (RNarrow_c n A2 k c2 es u v w6 he6 hn hu hv).mono ?_
        rintro e w7 ⟨rfl, hb7⟩
        have he7 := he6.below hb7
        have hbb7 := hbb6.trans (hb7.mono hbb6.size)
        rw [HR.out]
        unfold someI
        rw [Option.isSome_some]
        go_wp2_with fail
        refine (awake_c w7).mono ?_
        rintro e w8 ⟨rfl, hb8⟩
        have he8 := he7.below hb8
        have hbb8 := hbb7.trans (hb8.mono hbb7.size)
        go_wp2
        go_ret
        exact ⟨rfl, hbb8⟩

set_option maxHeartbeats 2000000 in
set_option maxRecDepth 100000 in
theorem LGroups_out2 (n : Nat) (A : Option Addr) (m c : Nat) (ss : List St) (es : List Ed) (x y z : Int) (w : World) (hs : RdS w A m ss) (hmc : m ≤ c) (hm : m ≤ 9223372036854775807) (hS : ss.take 61 = es.map Ed.st) (hn : Net n es) (hz : inR z 1 (n : Int) = false) (z0 : ¬ z < 1) (z1 : (n : Int) < z) :
    Calls Try.prog 12 #[.int .i64 (n : Int), .slice A m c, .agg #[.int .i64 x, .int .i64 y, .int .i64 z]] w fun e w' => e = .returned (.bool true) ∧ Below w.heap.size w w' := by
  have hk : min m 61 ≤ 1000 := by omega
  have hl0 : (ss.take 61).length = min m 61 := by rw [List.length_take, hs.1]; omega
  go_enter Try.func12, Try.ntmps12
  go_wp2_with fail
  generalize hW : World.alloc w _ = w1
  have hb1 : Below w.heap.size w w1 := by rw [← hW]; exact below_one' w _
  have hx1 : RdI w1 (some ⟨w.heap.size, 0, none⟩) 3 [x, y, z] := by rw [← hW]; exact ⟨rfl, cells_list w (iv [x, y, z]) 46⟩
  clear hW
  refine (net_c A m c ss w1 (hs.below hb1) hmc hm).mono ?_
  rintro e w2 ⟨A2, c2, rfl, ho2, hb2⟩
  have hs2 := ho2.rd
  clear ho2
  have hbb2 := hb1.trans (hb2.mono hb1.size)
  have hx2 := hx1.below hb2
  clear hx1 hs
  generalize min m 61 = k at *
  generalize ss.take 61 = S at *
  have hc0 : w2.cell? ⟨w.heap.size, 0, none⟩ = some (.int .i64 x) := rd_here hx2 (j := 0) rfl
  have hc1 : w2.cell? ⟨w.heap.size, 1, none⟩ = some (.int .i64 y) := rd_here hx2 (j := 1) rfl
  have hc2 : w2.cell? ⟨w.heap.size, 2, none⟩ = some (.int .i64 z) := rd_here hx2 (j := 2) rfl
  clear hx2
  go_wp2_with fail
  go_quiet (fail)
  have hq := drewN_below (Below.refl w2.heap.size w2) nq
  generalize hW : w2.drewN nq = w3 at *
  clear hW
  have hs3 := hs2.below hq
  have hbb3 := hbb2.trans (hq.mono hbb2.size)
  clear hs2 hc0 hc1 hc2 hmc hm hq hbb2 hb2
  subst hS
  rw [List.length_map] at hl0
  have he3 : RdE w3 A2 k es := hs3
  clear hs3
  by_cases ho : (inR x 0 ((n : Int) - 1) && inR y 0 ((n : Int) - 1)) = false
  · as_aux_lemma =>
      go_wp2_with fail
      refine (Narrow_out n A2 k c2 es x y w3 he3 hn ho).mono ?_
      rintro e w4 ⟨rfl, hb4⟩
      have he4 := he3.below hb4
      have hbb4 := hbb3.trans (hb4.mono hbb3.size)
      go_wp2_with fail
      refine (Groups_out n A2 k c2 es z w4 he4 hn hz).mono ?_
      rintro e w5 ⟨rfl, hb5⟩
      have he5 := he4.below hb5
      have hbb5 := hbb4.trans (hb5.mono hbb4.size)
      go_wp2_with fail
      refine (RNet_c n A2 k c2 _ w5 he5 hk).mono ?_
      rintro e w6 ⟨rfl, hb6⟩
      have he6 := he5.below hb6
      have hbb6 := hbb5.trans (hb6.mono hbb5.size)
      rw [netR_eq, net_yes hn]
      by_cases u0 : x < 0
      · go_wp2_with fail
        refine (awake_c w6).mono ?_
        rintro e w7 ⟨rfl, hb7⟩
        have he7 := he6.below hb7
        have hbb7 := hbb6.trans (hb7.mono hbb6.size)
        go_wp2
        go_ret
        exact ⟨rfl, hbb7⟩
      · by_cases u1 : (n : Int) ≤ x
        · go_wp2_with fail
          refine (awake_c w6).mono ?_
          rintro e w7 ⟨rfl, hb7⟩
          have he7 := he6.below hb7
          have hbb7 := hbb6.trans (hb7.mono hbb6.size)
          go_wp2
          go_ret
          exact ⟨rfl, hbb7⟩
        · by_cases v0 : y < 0
          · go_wp2_with fail
            refine (awake_c w6).mono ?_
            rintro e w7 ⟨rfl, hb7⟩
            have he7 := he6.below hb7
            have hbb7 := hbb6.trans (hb7.mono hbb6.size)
            go_wp2
            go_ret
            exact ⟨rfl, hbb7⟩
          · have v1 : (n : Int) ≤ y := by
              refine Classical.byContradiction fun h => ?_
              have h1 : inR x 0 ((n : Int) - 1) = true := (inR_iff _ _ _).2 (by omega)
              have h2 : inR y 0 ((n : Int) - 1) = true := (inR_iff _ _ _).2 (by omega)
              rw [h1, h2] at ho; cases ho
            go_wp2_with fail
            refine (awake_c w6).mono ?_
            rintro e w7 ⟨rfl, hb7⟩
            have he7 := he6.below hb7
            have hbb7 := hbb6.trans (hb7.mono hbb6.size)
            go_wp2
            go_ret
            exact ⟨rfl, hbb7⟩
  · obtain ⟨u, v, rfl, rfl, hu, hv⟩ : ∃ u v : Nat, x = (u : Int) ∧ y = (v : Int) ∧ u < n ∧ v < n := by
      simp only [Bool.not_eq_false, Bool.and_eq_true, inR_iff] at ho
      exact ⟨x.toNat, y.toNat, by omega, by omega, by omega, by omega⟩
    have HNR := Lib.hid (nar_eq (es := es) hu hv)
    cases hr : rnar n es u v with
    | none =>
      as_aux_lemma =>
        have HR := Lib.hid hr
        clear hr
        go_wp2_with fail
        refine (Narrow_c n A2 k c2 es u v w3 he3 hn hu hv).mono ?_
        rintro e w4 ⟨rfl, hb4⟩
        have he4 := he3.below hb4
        have hbb4 := hbb3.trans (hb4.mono hbb3.size)
        rw [HNR.out, HR.out]
        unfold narV
        go_wp2_with fail
        refine (Groups_out n A2 k c2 es z w4 he4 hn hz).mono ?_
        rintro e w5 ⟨rfl, hb5⟩
        have he5 := he4.below hb5
        have hbb5 := hbb4.trans (hb5.mono hbb4.size)
        go_wp2_with fail
        refine (RNet_c n A2 k c2 _ w5 he5 hk).mono ?_
        rintro e w6 ⟨rfl, hb6⟩
        have he6 := he5.below hb6
        have hbb6 := hbb5.trans (hb6.mono hbb5.size)
        rw [netR_eq, net_yes hn]
        go_wp2_with fail
        refine (RNarrow_c n A2 k c2 es u v w6 he6 hn hu hv).mono ?_
        rintro e w7 ⟨rfl, hb7⟩
        have he7 := he6.below hb7
        have hbb7 := hbb6.trans (hb7.mono hbb6.size)
        rw [HR.out]
        unfold someI
        rw [Option.isSome_none]
        go_wp2_with fail
        refine (awake_c w7).mono ?_
        rintro e w8 ⟨rfl, hb8⟩
        have he8 := he7.below hb8
        have hbb8 := hbb7.trans (hb8.mono hbb7.size)
        go_wp2
        go_ret
        exact ⟨rfl, hbb8⟩
    | some nw =>
      as_aux_lemma =>
        have HR := Lib.hid hr
        clear hr
        have hdn : ((nw : Int) != (nw : Int)) = false := by simp
        go_wp2_with fail
        refine (Narrow_c n A2 k c2 es u v w3 he3 hn hu hv).mono ?_
        rintro e w4 ⟨rfl, hb4⟩
        have he4 := he3.below hb4
        have hbb4 := hbb3.trans (hb4.mono hbb3.size)
        rw [HNR.out, HR.out]
        unfold narV
        go_wp2_with fail
        refine (Groups_out n A2 k c2 es z w4 he4 hn hz).mono ?_
        rintro e w5 ⟨rfl, hb5⟩
        have he5 := he4.below hb5
        have hbb5 := hbb4.trans (hb5.mono hbb4.size)
        go_wp2_with fail
        refine (RNet_c n A2 k c2 _ w5 he5 hk).mono ?_
        rintro e w6 ⟨rfl, hb6⟩
        have he6 := he5.below hb6
        have hbb6 := hbb5.trans (hb6.mono hbb5.size)
        rw [netR_eq, net_yes hn]
        go_wp2_with fail
        refine (RNarrow_c n A2 k c2 es u v w6 he6 hn hu hv).mono ?_
        rintro e w7 ⟨rfl, hb7⟩
        have he7 := he6.below hb7
        have hbb7 := hbb6.trans (hb7.mono hbb6.size)
        rw [HR.out]
        unfold someI
        rw [Option.isSome_some]
        go_wp2_with fail
        refine (awake_c w7).mono ?_
        rintro e w8 ⟨rfl, hb8⟩
        have he8 := he7.below hb8
        have hbb8 := hbb7.trans (hb8.mono hbb7.size)
        go_wp2
        go_ret
        exact ⟨rfl, hbb8⟩

set_option maxHeartbeats 2000000 in
set_option maxRecDepth 100000 in
theorem LGroups_none (n : Nat) (A : Option Addr) (m c : Nat) (ss : List St) (es : List Ed) (x y : Int) (kz : Nat) (w : World) (hs : RdS w A m ss) (hmc : m ≤ c) (hm : m ≤ 9223372036854775807) (hS : ss.take 61 = es.map Ed.st) (hn : Net n es) (k1 : 1 ≤ kz) (kn : kz ≤ n) (hok : firstOk n es = false) :
    Calls Try.prog 12 #[.int .i64 (n : Int), .slice A m c, .agg #[.int .i64 x, .int .i64 y, .int .i64 (kz : Int)]] w fun e w' => e = .returned (.bool true) ∧ Below w.heap.size w w' := by
  have hokP : okP n es = false := by rw [okP_eq hn, hok]
  have hz : inR (kz : Int) 1 (n : Int) = true := (inR_iff _ _ _).2 (by omega)
  have hk : min m 61 ≤ 1000 := by omega
  have hl0 : (ss.take 61).length = min m 61 := by rw [List.length_take, hs.1]; omega
  go_enter Try.func12, Try.ntmps12
  go_wp2_with fail
  generalize hW : World.alloc w _ = w1
  have hb1 : Below w.heap.size w w1 := by rw [← hW]; exact below_one' w _
  have hx1 : RdI w1 (some ⟨w.heap.size, 0, none⟩) 3 [x, y, (kz : Int)] := by rw [← hW]; exact ⟨rfl, cells_list w (iv [x, y, (kz : Int)]) 46⟩
  clear hW
  refine (net_c A m c ss w1 (hs.below hb1) hmc hm).mono ?_
  rintro e w2 ⟨A2, c2, rfl, ho2, hb2⟩
  have hs2 := ho2.rd
  clear ho2
  have hbb2 := hb1.trans (hb2.mono hb1.size)
  have hx2 := hx1.below hb2
  clear hx1 hs
  generalize min m 61 = k at *
  generalize ss.take 61 = S at *
  have hc0 : w2.cell? ⟨w.heap.size, 0, none⟩ = some (.int .i64 x) := rd_here hx2 (j := 0) rfl
  have hc1 : w2.cell? ⟨w.heap.size, 1, none⟩ = some (.int .i64 y) := rd_here hx2 (j := 1) rfl
  have hc2 : w2.cell? ⟨w.heap.size, 2, none⟩ = some (.int .i64 (kz : Int)) := rd_here hx2 (j := 2) rfl
  clear hx2
  go_wp2_with fail
  go_quiet (fail)
  have hq := drewN_below (Below.refl w2.heap.size w2) nq
  generalize hW : w2.drewN nq = w3 at *
  clear hW
  have hs3 := hs2.below hq
  have hbb3 := hbb2.trans (hq.mono hbb2.size)
  clear hs2 hc0 hc1 hc2 hmc hm hq hbb2 hb2
  subst hS
  rw [List.length_map] at hl0
  have he3 : RdE w3 A2 k es := hs3
  clear hs3
  by_cases ho : (inR x 0 ((n : Int) - 1) && inR y 0 ((n : Int) - 1)) = false
  · as_aux_lemma =>
      go_wp2_with fail
      refine (Narrow_out n A2 k c2 es x y w3 he3 hn ho).mono ?_
      rintro e w4 ⟨rfl, hb4⟩
      have he4 := he3.below hb4
      have hbb4 := hbb3.trans (hb4.mono hbb3.size)
      go_wp2_with fail
      refine (Groups_none n A2 k c2 es (kz : Int) w4 he4 hn hz hokP).mono ?_
      rintro e w5 ⟨rfl, hb5⟩
      have he5 := he4.below hb5
      have hbb5 := hbb4.trans (hb5.mono hbb4.size)
      go_wp2_with fail
      refine (RNet_c n A2 k c2 _ w5 he5 hk).mono ?_
      rintro e w6 ⟨rfl, hb6⟩
      have he6 := he5.below hb6
      have hbb6 := hbb5.trans (hb6.mono hbb5.size)
      rw [netR_eq, net_yes hn]
      by_cases u0 : x < 0
      · go_wp2_with fail
        refine (First_c n A2 k c2 es w6 he6 hn).mono ?_
        rintro e w7 ⟨A9, c9, rfl, ho9, hb7⟩
        have he7 := he6.below hb7
        have hbb7 := hbb6.trans (hb7.mono hbb6.size)
        rw [hok]
        clear ho9
        generalize (firstL n es).length = fl at *
        go_wp2_with fail
        refine (awake_c w7).mono ?_
        rintro e w8 ⟨rfl, hb8⟩
        have he8 := he7.below hb8
        have hbb8 := hbb7.trans (hb8.mono hbb7.size)
        go_wp2
        go_ret
        exact ⟨rfl, hbb8⟩
      · by_cases u1 : (n : Int) ≤ x
        · go_wp2_with fail
          refine (First_c n A2 k c2 es w6 he6 hn).mono ?_
          rintro e w7 ⟨A9, c9, rfl, ho9, hb7⟩
          have he7 := he6.below hb7
          have hbb7 := hbb6.trans (hb7.mono hbb6.size)
          rw [hok]
          clear ho9
          generalize (firstL n es).length = fl at *
          go_wp2_with fail
          refine (awake_c w7).mono ?_
          rintro e w8 ⟨rfl, hb8⟩
          have he8 := he7.below hb8
          have hbb8 := hbb7.trans (hb8.mono hbb7.size)
          go_wp2
          go_ret
          exact ⟨rfl, hbb8⟩
        · by_cases v0 : y < 0
          · go_wp2_with fail
            refine (First_c n A2 k c2 es w6 he6 hn).mono ?_
            rintro e w7 ⟨A9, c9, rfl, ho9, hb7⟩
            have he7 := he6.below hb7
            have hbb7 := hbb6.trans (hb7.mono hbb6.size)
            rw [hok]
            clear ho9
            generalize (firstL n es).length = fl at *
            go_wp2_with fail
            refine (awake_c w7).mono ?_
            rintro e w8 ⟨rfl, hb8⟩
            have he8 := he7.below hb8
            have hbb8 := hbb7.trans (hb8.mono hbb7.size)
            go_wp2
            go_ret
            exact ⟨rfl, hbb8⟩
          · have v1 : (n : Int) ≤ y := by
              refine Classical.byContradiction fun h => ?_
              have h1 : inR x 0 ((n : Int) - 1) = true := (inR_iff _ _ _).2 (by omega)
              have h2 : inR y 0 ((n : Int) - 1) = true := (inR_iff _ _ _).2 (by omega)
              rw [h1, h2] at ho; cases ho
            go_wp2_with fail
            refine (First_c n A2 k c2 es w6 he6 hn).mono ?_
            rintro e w7 ⟨A9, c9, rfl, ho9, hb7⟩
            have he7 := he6.below hb7
            have hbb7 := hbb6.trans (hb7.mono hbb6.size)
            rw [hok]
            clear ho9
            generalize (firstL n es).length = fl at *
            go_wp2_with fail
            refine (awake_c w7).mono ?_
            rintro e w8 ⟨rfl, hb8⟩
            have he8 := he7.below hb8
            have hbb8 := hbb7.trans (hb8.mono hbb7.size)
            go_wp2
            go_ret
            exact ⟨rfl, hbb8⟩
  · obtain ⟨u, v, rfl, rfl, hu, hv⟩ : ∃ u v : Nat, x = (u : Int) ∧ y = (v : Int) ∧ u < n ∧ v < n := by
      simp only [Bool.not_eq_false, Bool.and_eq_true, inR_iff] at ho
      exact ⟨x.toNat, y.toNat, by omega, by omega, by omega, by omega⟩
    have HNR := Lib.hid (nar_eq (es := es) hu hv)
    cases hr : rnar n es u v with
    | none =>
      as_aux_lemma =>
        have HR := Lib.hid hr
        clear hr
        go_wp2_with fail
        refine (Narrow_c n A2 k c2 es u v w3 he3 hn hu hv).mono ?_
        rintro e w4 ⟨rfl, hb4⟩
        have he4 := he3.below hb4
        have hbb4 := hbb3.trans (hb4.mono hbb3.size)
        rw [HNR.out, HR.out]
        unfold narV
        go_wp2_with fail
        refine (Groups_none n A2 k c2 es (kz : Int) w4 he4 hn hz hokP).mono ?_
        rintro e w5 ⟨rfl, hb5⟩
        have he5 := he4.below hb5
        have hbb5 := hbb4.trans (hb5.mono hbb4.size)
        go_wp2_with fail
        refine (RNet_c n A2 k c2 _ w5 he5 hk).mono ?_
        rintro e w6 ⟨rfl, hb6⟩
        have he6 := he5.below hb6
        have hbb6 := hbb5.trans (hb6.mono hbb5.size)
        rw [netR_eq, net_yes hn]
        go_wp2_with fail
        refine (RNarrow_c n A2 k c2 es u v w6 he6 hn hu hv).mono ?_
        rintro e w7 ⟨rfl, hb7⟩
        have he7 := he6.below hb7
        have hbb7 := hbb6.trans (hb7.mono hbb6.size)
        rw [HR.out]
        unfold someI
        rw [Option.isSome_none]
        go_wp2_with fail
        refine (First_c n A2 k c2 es w7 he7 hn).mono ?_
        rintro e w8 ⟨A9, c9, rfl, ho9, hb8⟩
        have he8 := he7.below hb8
        have hbb8 := hbb7.trans (hb8.mono hbb7.size)
        rw [hok]
        clear ho9
        generalize (firstL n es).length = fl at *
        go_wp2_with fail
        refine (awake_c w8).mono ?_
        rintro e w9 ⟨rfl, hb9⟩
        have he9 := he8.below hb9
        have hbb9 := hbb8.trans (hb9.mono hbb8.size)
        go_wp2
        go_ret
        exact ⟨rfl, hbb9⟩
    | some nw =>
      as_aux_lemma =>
        have HR := Lib.hid hr
        clear hr
        have hdn : ((nw : Int) != (nw : Int)) = false := by simp
        go_wp2_with fail
        refine (Narrow_c n A2 k c2 es u v w3 he3 hn hu hv).mono ?_
        rintro e w4 ⟨rfl, hb4⟩
        have he4 := he3.below hb4
        have hbb4 := hbb3.trans (hb4.mono hbb3.size)
        rw [HNR.out, HR.out]
        unfold narV
        go_wp2_with fail
        refine (Groups_none n A2 k c2 es (kz : Int) w4 he4 hn hz hokP).mono ?_
        rintro e w5 ⟨rfl, hb5⟩
        have he5 := he4.below hb5
        have hbb5 := hbb4.trans (hb5.mono hbb4.size)
        go_wp2_with fail
        refine (RNet_c n A2 k c2 _ w5 he5 hk).mono ?_
        rintro e w6 ⟨rfl, hb6⟩
        have he6 := he5.below hb6
        have hbb6 := hbb5.trans (hb6.mono hbb5.size)
        rw [netR_eq, net_yes hn]
        go_wp2_with fail
        refine (RNarrow_c n A2 k c2 es u v w6 he6 hn hu hv).mono ?_
        rintro e w7 ⟨rfl, hb7⟩
        have he7 := he6.below hb7
        have hbb7 := hbb6.trans (hb7.mono hbb6.size)
        rw [HR.out]
        unfold someI
        rw [Option.isSome_some]
        go_wp2_with fail
        refine (First_c n A2 k c2 es w7 he7 hn).mono ?_
        rintro e w8 ⟨A9, c9, rfl, ho9, hb8⟩
        have he8 := he7.below hb8
        have hbb8 := hbb7.trans (hb8.mono hbb7.size)
        rw [hok]
        clear ho9
        generalize (firstL n es).length = fl at *
        go_wp2_with fail
        refine (awake_c w8).mono ?_
        rintro e w9 ⟨rfl, hb9⟩
        have he9 := he8.below hb9
        have hbb9 := hbb8.trans (hb9.mono hbb8.size)
        go_wp2
        go_ret
        exact ⟨rfl, hbb9⟩

set_option maxHeartbeats 2000000 in
set_option maxRecDepth 100000 in
theorem LGroups_ok (n : Nat) (A : Option Addr) (m c : Nat) (ss : List St) (es : List Ed) (x y : Int) (kz : Nat) (w : World) (hs : RdS w A m ss) (hmc : m ≤ c) (hm : m ≤ 9223372036854775807) (hS : ss.take 61 = es.map Ed.st) (hn : Net n es) (k1 : 1 ≤ kz) (kn : kz ≤ n) (hok : firstOk n es = true) :
    Calls Try.prog 12 #[.int .i64 (n : Int), .slice A m c, .agg #[.int .i64 x, .int .i64 y, .int .i64 (kz : Int)]] w fun e w' => e = .returned (.bool true) ∧ Below w.heap.size w w' := by
  have hokP : okP n es = true := by rw [okP_eq hn, hok]
  have HG := Lib.hid (grp_eq (n := n) (es := es) kz)
  have hk : min m 61 ≤ 1000 := by omega
  have hl0 : (ss.take 61).length = min m 61 := by rw [List.length_take, hs.1]; omega
  go_enter Try.func12, Try.ntmps12
  go_wp2_with fail
  generalize hW : World.alloc w _ = w1
  have hb1 : Below w.heap.size w w1 := by rw [← hW]; exact below_one' w _
  have hx1 : RdI w1 (some ⟨w.heap.size, 0, none⟩) 3 [x, y, (kz : Int)] := by rw [← hW]; exact ⟨rfl, cells_list w (iv [x, y, (kz : Int)]) 46⟩
  clear hW
  refine (net_c A m c ss w1 (hs.below hb1) hmc hm).mono ?_
  rintro e w2 ⟨A2, c2, rfl, ho2, hb2⟩
  have hs2 := ho2.rd
  clear ho2
  have hbb2 := hb1.trans (hb2.mono hb1.size)
  have hx2 := hx1.below hb2
  clear hx1 hs
  generalize min m 61 = k at *
  generalize ss.take 61 = S at *
  have hc0 : w2.cell? ⟨w.heap.size, 0, none⟩ = some (.int .i64 x) := rd_here hx2 (j := 0) rfl
  have hc1 : w2.cell? ⟨w.heap.size, 1, none⟩ = some (.int .i64 y) := rd_here hx2 (j := 1) rfl
  have hc2 : w2.cell? ⟨w.heap.size, 2, none⟩ = some (.int .i64 (kz : Int)) := rd_here hx2 (j := 2) rfl
  clear hx2
  go_wp2_with fail
  go_quiet (fail)
  have hq := drewN_below (Below.refl w2.heap.size w2) nq
  generalize hW : w2.drewN nq = w3 at *
  clear hW
  have hs3 := hs2.below hq
  have hbb3 := hbb2.trans (hq.mono hbb2.size)
  clear hs2 hc0 hc1 hc2 hmc hm hq hbb2 hb2
  subst hS
  rw [List.length_map] at hl0
  have he3 : RdE w3 A2 k es := hs3
  clear hs3
  by_cases ho : (inR x 0 ((n : Int) - 1) && inR y 0 ((n : Int) - 1)) = false
  · as_aux_lemma =>
      go_wp2_with fail
      refine (Narrow_out n A2 k c2 es x y w3 he3 hn ho).mono ?_
      rintro e w4 ⟨rfl, hb4⟩
      have he4 := he3.below hb4
      have hbb4 := hbb3.trans (hb4.mono hbb3.size)
      go_wp2_with fail
      refine (Groups_c n A2 k c2 es kz w4 he4 hn k1 kn hokP).mono ?_
      rintro e w5 ⟨A5, c5, rfl, ho5, hb5⟩
      have he5 := he4.below hb5
      have hbb5 := hbb4.trans (hb5.mono hbb4.size)
      rw [HG.out] at ho5 ⊢
      have hg5 := RdI.of_n ho5.rd
      clear ho5
      generalize hbw : betwF es (rgrpG n es kz) = bw at *
      have HBW := Lib.hid hbw
      clear hbw
      have hdb : (bw == bw) = true := by simp
      go_wp2_with fail
      refine (RNet_c n A2 k c2 _ w5 he5 hk).mono ?_
      rintro e w6 ⟨rfl, hb6⟩
      have he6 := he5.below hb6
      have hbb6 := hbb5.trans (hb6.mono hbb5.size)
      have hg6 := hg5.below hb6
      rw [netR_eq, net_yes hn]
      by_cases u0 : x < 0
      · go_wp2_with fail
        refine (First_c n A2 k c2 es w6 he6 hn).mono ?_
        rintro e w7 ⟨A9, c9, rfl, ho9, hb7⟩
        have he7 := he6.below hb7
        have hbb7 := hbb6.trans (hb7.mono hbb6.size)
        have hg7 := hg6.below hb7
        rw [hok]
        clear ho9
        generalize (firstL n es).length = fl at *
        go_wp2_with fail
        refine (RGroups_c n A2 k c2 es kz w7 he7 hn k1 kn).mono ?_
        rintro e w8 ⟨A10, c10, rfl, ho10, hb8⟩
        have he8 := he7.below hb8
        have hbb8 := hbb7.trans (hb8.mono hbb7.size)
        rw [HBW.out]
        have hg8 := hg7.below hb8
        have hy := RdI.of_n ho10.rd
        clear ho10
        go_wp2_with fail
        refine (ints_c A5 n c5 _ A10 n c10 _ w8 hg8 hy (by have := hn.n16; omega) (by have := hn.n16; omega)).mono ?_
        rintro e w9 ⟨rfl, hb9⟩
        have he9 := he8.below hb9
        have hbb9 := hbb8.trans (hb9.mono hbb8.size)
        rw [decide_eq_true (rfl : (rgrpG n es kz).map (fun x : Nat => (x : Int)) = _)]
        go_wp2_with fail
        refine (awake_c w9).mono ?_
        rintro e w10 ⟨rfl, hb10⟩
        have he10 := he9.below hb10
        have hbb10 := hbb9.trans (hb10.mono hbb9.size)
        go_wp2
        go_ret
        exact ⟨rfl, hbb10⟩
      · by_cases u1 : (n : Int) ≤ x
        · go_wp2_with fail
          refine (First_c n A2 k c2 es w6 he6 hn).mono ?_
          rintro e w7 ⟨A9, c9, rfl, ho9, hb7⟩
          have he7 := he6.below hb7
          have hbb7 := hbb6.trans (hb7.mono hbb6.size)
          have hg7 := hg6.below hb7
          rw [hok]
          clear ho9
          generalize (firstL n es).length = fl at *
          go_wp2_with fail
          refine (RGroups_c n A2 k c2 es kz w7 he7 hn k1 kn).mono ?_
          rintro e w8 ⟨A10, c10, rfl, ho10, hb8⟩
          have he8 := he7.below hb8
          have hbb8 := hbb7.trans (hb8.mono hbb7.size)
          rw [HBW.out]
          have hg8 := hg7.below hb8
          have hy := RdI.of_n ho10.rd
          clear ho10
          go_wp2_with fail
          refine (ints_c A5 n c5 _ A10 n c10 _ w8 hg8 hy (by have := hn.n16; omega) (by have := hn.n16; omega)).mono ?_
          rintro e w9 ⟨rfl, hb9⟩
          have he9 := he8.below hb9
          have hbb9 := hbb8.trans (hb9.mono hbb8.size)
          rw [decide_eq_true (rfl : (rgrpG n es kz).map (fun x : Nat => (x : Int)) = _)]
          go_wp2_with fail
          refine (awake_c w9).mono ?_
          rintro e w10 ⟨rfl, hb10⟩
          have he10 := he9.below hb10
          have hbb10 := hbb9.trans (hb10.mono hbb9.size)
          go_wp2
          go_ret
          exact ⟨rfl, hbb10⟩
        · by_cases v0 : y < 0
          · go_wp2_with fail
            refine (First_c n A2 k c2 es w6 he6 hn).mono ?_
            rintro e w7 ⟨A9, c9, rfl, ho9, hb7⟩
            have he7 := he6.below hb7
            have hbb7 := hbb6.trans (hb7.mono hbb6.size)
            have hg7 := hg6.below hb7
            rw [hok]
            clear ho9
            generalize (firstL n es).length = fl at *
            go_wp2_with fail
            refine (RGroups_c n A2 k c2 es kz w7 he7 hn k1 kn).mono ?_
            rintro e w8 ⟨A10, c10, rfl, ho10, hb8⟩
            have he8 := he7.below hb8
            have hbb8 := hbb7.trans (hb8.mono hbb7.size)
            rw [HBW.out]
            have hg8 := hg7.below hb8
            have hy := RdI.of_n ho10.rd
            clear ho10
            go_wp2_with fail
            refine (ints_c A5 n c5 _ A10 n c10 _ w8 hg8 hy (by have := hn.n16; omega) (by have := hn.n16; omega)).mono ?_
            rintro e w9 ⟨rfl, hb9⟩
            have he9 := he8.below hb9
            have hbb9 := hbb8.trans (hb9.mono hbb8.size)
            rw [decide_eq_true (rfl : (rgrpG n es kz).map (fun x : Nat => (x : Int)) = _)]
            go_wp2_with fail
            refine (awake_c w9).mono ?_
            rintro e w10 ⟨rfl, hb10⟩
            have he10 := he9.below hb10
            have hbb10 := hbb9.trans (hb10.mono hbb9.size)
            go_wp2
            go_ret
            exact ⟨rfl, hbb10⟩
          · have v1 : (n : Int) ≤ y := by
              refine Classical.byContradiction fun h => ?_
              have h1 : inR x 0 ((n : Int) - 1) = true := (inR_iff _ _ _).2 (by omega)
              have h2 : inR y 0 ((n : Int) - 1) = true := (inR_iff _ _ _).2 (by omega)
              rw [h1, h2] at ho; cases ho
            go_wp2_with fail
            refine (First_c n A2 k c2 es w6 he6 hn).mono ?_
            rintro e w7 ⟨A9, c9, rfl, ho9, hb7⟩
            have he7 := he6.below hb7
            have hbb7 := hbb6.trans (hb7.mono hbb6.size)
            have hg7 := hg6.below hb7
            rw [hok]
            clear ho9
            generalize (firstL n es).length = fl at *
            go_wp2_with fail
            refine (RGroups_c n A2 k c2 es kz w7 he7 hn k1 kn).mono ?_
            rintro e w8 ⟨A10, c10, rfl, ho10, hb8⟩
            have he8 := he7.below hb8
            have hbb8 := hbb7.trans (hb8.mono hbb7.size)
            rw [HBW.out]
            have hg8 := hg7.below hb8
            have hy := RdI.of_n ho10.rd
            clear ho10
            go_wp2_with fail
            refine (ints_c A5 n c5 _ A10 n c10 _ w8 hg8 hy (by have := hn.n16; omega) (by have := hn.n16; omega)).mono ?_
            rintro e w9 ⟨rfl, hb9⟩
            have he9 := he8.below hb9
            have hbb9 := hbb8.trans (hb9.mono hbb8.size)
            rw [decide_eq_true (rfl : (rgrpG n es kz).map (fun x : Nat => (x : Int)) = _)]
            go_wp2_with fail
            refine (awake_c w9).mono ?_
            rintro e w10 ⟨rfl, hb10⟩
            have he10 := he9.below hb10
            have hbb10 := hbb9.trans (hb10.mono hbb9.size)
            go_wp2
            go_ret
            exact ⟨rfl, hbb10⟩
  · obtain ⟨u, v, rfl, rfl, hu, hv⟩ : ∃ u v : Nat, x = (u : Int) ∧ y = (v : Int) ∧ u < n ∧ v < n := by
      simp only [Bool.not_eq_false, Bool.and_eq_true, inR_iff] at ho
      exact ⟨x.toNat, y.toNat, by omega, by omega, by omega, by omega⟩
    have HNR := Lib.hid (nar_eq (es := es) hu hv)
    cases hr : rnar n es u v with
    | none =>
      as_aux_lemma =>
        have HR := Lib.hid hr
        clear hr
        go_wp2_with fail
        refine (Narrow_c n A2 k c2 es u v w3 he3 hn hu hv).mono ?_
        rintro e w4 ⟨rfl, hb4⟩
        have he4 := he3.below hb4
        have hbb4 := hbb3.trans (hb4.mono hbb3.size)
        rw [HNR.out, HR.out]
        unfold narV
        go_wp2_with fail
        refine (Groups_c n A2 k c2 es kz w4 he4 hn k1 kn hokP).mono ?_
        rintro e w5 ⟨A5, c5, rfl, ho5, hb5⟩
        have he5 := he4.below hb5
        have hbb5 := hbb4.trans (hb5.mono hbb4.size)
        rw [HG.out] at ho5 ⊢
        have hg5 := RdI.of_n ho5.rd
        clear ho5
        generalize hbw : betwF es (rgrpG n es kz) = bw at *
        have HBW := Lib.hid hbw
        clear hbw
        have hdb : (bw == bw) = true := by simp
        go_wp2_with fail
        refine (RNet_c n A2 k c2 _ w5 he5 hk).mono ?_
        rintro e w6 ⟨rfl, hb6⟩
        have he6 := he5.below hb6
        have hbb6 := hbb5.trans (hb6.mono hbb5.size)
        have hg6 := hg5.below hb6
        rw [netR_eq, net_yes hn]
        go_wp2_with fail
        refine (RNarrow_c n A2 k c2 es u v w6 he6 hn hu hv).mono ?_
        rintro e w7 ⟨rfl, hb7⟩
        have he7 := he6.below hb7
        have hbb7 := hbb6.trans (hb7.mono hbb6.size)
        rw [HR.out]
        unfold someI
        rw [Option.isSome_none]
        have hg7 := hg6.below hb7
        go_wp2_with fail
        refine (First_c n A2 k c2 es w7 he7 hn).mono ?_
        rintro e w8 ⟨A9, c9, rfl, ho9, hb8⟩
        have he8 := he7.below hb8
        have hbb8 := hbb7.trans (hb8.mono hbb7.size)
        have hg8 := hg7.below hb8
        rw [hok]
        clear ho9
        generalize (firstL n es).length = fl at *
        go_wp2_with fail
        refine (RGroups_c n A2 k c2 es kz w8 he8 hn k1 kn).mono ?_
        rintro e w9 ⟨A10, c10, rfl, ho10, hb9⟩
        have he9 := he8.below hb9
        have hbb9 := hbb8.trans (hb9.mono hbb8.size)
        rw [HBW.out]
        have hg9 := hg8.below hb9
        have hy := RdI.of_n ho10.rd
        clear ho10
        go_wp2_with fail
        refine (ints_c A5 n c5 _ A10 n c10 _ w9 hg9 hy (by have := hn.n16; omega) (by have := hn.n16; omega)).mono ?_
        rintro e w10 ⟨rfl, hb10⟩
        have he10 := he9.below hb10
        have hbb10 := hbb9.trans (hb10.mono hbb9.size)
        rw [decide_eq_true (rfl : (rgrpG n es kz).map (fun x : Nat => (x : Int)) = _)]
        go_wp2_with fail
        refine (awake_c w10).mono ?_
        rintro e w11 ⟨rfl, hb11⟩
        have he11 := he10.below hb11
        have hbb11 := hbb10.trans (hb11.mono hbb10.size)
        go_wp2
        go_ret
        exact ⟨rfl, hbb11⟩
    | some nw =>
      as_aux_lemma =>
        have HR := Lib.hid hr
        clear hr
        have hdn : ((nw : Int) != (nw : Int)) = false := by simp
        go_wp2_with fail
        refine (Narrow_c n A2 k c2 es u v w3 he3 hn hu hv).mono ?_
        rintro e w4 ⟨rfl, hb4⟩
        have he4 := he3.below hb4
        have hbb4 := hbb3.trans (hb4.mono hbb3.size)
        rw [HNR.out, HR.out]
        unfold narV
        go_wp2_with fail
        refine (Groups_c n A2 k c2 es kz w4 he4 hn k1 kn hokP).mono ?_
        rintro e w5 ⟨A5, c5, rfl, ho5, hb5⟩
        have he5 := he4.below hb5
        have hbb5 := hbb4.trans (hb5.mono hbb4.size)
        rw [HG.out] at ho5 ⊢
        have hg5 := RdI.of_n ho5.rd
        clear ho5
        generalize hbw : betwF es (rgrpG n es kz) = bw at *
        have HBW := Lib.hid hbw
        clear hbw
        have hdb : (bw == bw) = true := by simp
        go_wp2_with fail
        refine (RNet_c n A2 k c2 _ w5 he5 hk).mono ?_
        rintro e w6 ⟨rfl, hb6⟩
        have he6 := he5.below hb6
        have hbb6 := hbb5.trans (hb6.mono hbb5.size)
        have hg6 := hg5.below hb6
        rw [netR_eq, net_yes hn]
        go_wp2_with fail
        refine (RNarrow_c n A2 k c2 es u v w6 he6 hn hu hv).mono ?_
        rintro e w7 ⟨rfl, hb7⟩
        have he7 := he6.below hb7
        have hbb7 := hbb6.trans (hb7.mono hbb6.size)
        rw [HR.out]
        unfold someI
        rw [Option.isSome_some]
        have hg7 := hg6.below hb7
        go_wp2_with fail
        refine (First_c n A2 k c2 es w7 he7 hn).mono ?_
        rintro e w8 ⟨A9, c9, rfl, ho9, hb8⟩
        have he8 := he7.below hb8
        have hbb8 := hbb7.trans (hb8.mono hbb7.size)
        have hg8 := hg7.below hb8
        rw [hok]
        clear ho9
        generalize (firstL n es).length = fl at *
        go_wp2_with fail
        refine (RGroups_c n A2 k c2 es kz w8 he8 hn k1 kn).mono ?_
        rintro e w9 ⟨A10, c10, rfl, ho10, hb9⟩
        have he9 := he8.below hb9
        have hbb9 := hbb8.trans (hb9.mono hbb8.size)
        rw [HBW.out]
        have hg9 := hg8.below hb9
        have hy := RdI.of_n ho10.rd
        clear ho10
        go_wp2_with fail
        refine (ints_c A5 n c5 _ A10 n c10 _ w9 hg9 hy (by have := hn.n16; omega) (by have := hn.n16; omega)).mono ?_
        rintro e w10 ⟨rfl, hb10⟩
        have he10 := he9.below hb10
        have hbb10 := hbb9.trans (hb10.mono hbb9.size)
        rw [decide_eq_true (rfl : (rgrpG n es kz).map (fun x : Nat => (x : Int)) = _)]
        go_wp2_with fail
        refine (awake_c w10).mono ?_
        rintro e w11 ⟨rfl, hb11⟩
        have he11 := he10.below hb11
        have hbb11 := hbb10.trans (hb11.mono hbb10.size)
        go_wp2
        go_ret
        exact ⟨rfl, hbb11⟩

theorem LGroups_true (n : Int) (A : Option Addr) (m c : Nat) (ss : List St) (x y z : Int) (w : World) (hs : RdS w A m ss) (hmc : m ≤ c) (hm : m ≤ 9223372036854775807) :
    Calls Try.prog 12 #[.int .i64 n, .slice A m c, .agg #[.int .i64 x, .int .i64 y, .int .i64 z]] w fun e w' => e = .returned (.bool true) ∧ Below w.heap.size w w' := by
  cases hb : netB n (ss.take 61) with
  | false => exact LGroups_bad n A m c ss x y z w hs hmc hm hb
  | true =>
    obtain ⟨n', es, rfl, hS, hn⟩ := net_of hb
    by_cases z0 : z < 1
    · refine LGroups_out1 n' A m c ss es x y z w hs hmc hm hS hn ?_ z0
      rw [← Bool.not_eq_true, inR_iff]; omega
    · by_cases z1 : (n' : Int) < z
      · refine LGroups_out2 n' A m c ss es x y z w hs hmc hm hS hn ?_ z0 z1
        rw [← Bool.not_eq_true, inR_iff]; omega
      · obtain ⟨kz, rfl⟩ : ∃ kz : Nat, z = (kz : Int) := ⟨z.toNat, by omega⟩
        cases hok : firstOk n' es with
        | false => exact LGroups_none n' A m c ss es x y kz w hs hmc hm hS hn (by omega) (by omega) hok
        | true => exact LGroups_ok n' A m c ss es x y kz w hs hmc hm hS hn (by omega) (by omega) hok

end Go.Proofs.Ytpfbichomgojoaa
