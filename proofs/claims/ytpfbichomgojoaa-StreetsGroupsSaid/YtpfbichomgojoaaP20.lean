/- Walk: smallest. -/
import Derived.Test.YtpfbichomgojoaaP19
namespace Go.Proofs.Ytpfbichomgojoaa
open Go.RowKit

theorem smF_succ {p n : Nat} {es : List Ed} {q : Nat} : smF p n es (q + 1) = smS p n es (ordL es) (smF p n es q) q := by unfold smF; exact foldl_range
theorem smF_inv (p n : Nat) (es : List Ed) (hn : 0 < n) (hp : 1 < p) (q : Nat) : (smF p n es q).1 < p ∧ ∀ v, nat_ (smF p n es q).2 v < n := by
  induction q with
  | zero => exact ⟨hp, nat_lt_of (fun x hx => List.mem_range.1 hx) hn⟩
  | succ q ih =>
    rw [smF_succ]
    unfold smS
    split
    · exact ih
    · exact ⟨Nat.mod_lt _ (by omega), nat_lt_of (kruG_inv n es _ hn).2 hn⟩
theorem spP_lt (p n : Nat) (es : List Ed) (gb ga : List Nat) (w : Nat) (hp : 1 < p) : spP p n es gb ga w < p := by
  unfold spP
  have key : ∀ (l : List Nat) (o : Nat), o < p → l.foldl (spS p n es gb ga w) o < p := by
    intro l
    induction l with
    | nil => intro o h; exact h
    | cons x l ih =>
      intro o h
      refine ih _ ?_
      unfold spS
      split
      · exact h
      · exact Nat.mod_lt _ (by omega)
  exact key _ _ hp

set_option maxHeartbeats 8000000 in
set_option maxRecDepth 100000 in
theorem smallest_c (p n : Nat) (E : Option Addr) (m ce : Nat) (es : List Ed) (w : World) (he : RdE w E m es) (hN : InN n es) (hn : 0 < n) (hp1 : 1 < p) (hp : p ≤ 2147483647) :
    Calls Try.prog 44 #[netV n E m ce, .int .i64 (p : Int)] w fun e w' => e = .returned (.int .i64 ((smP p n es : Nat) : Int)) ∧ Below w.heap.size w w' := by
  have hel := Lib.hid he.len
  have hn16 := hN.1
  have hm60 : m ≤ 60 := by have := hN.2.1; have := hel.out; omega
  have HOr := Lib.hid (fun W h => ordered_cc n E m ce es W h (by omega))
  have HSm := Lib.hid (show smP p n es = (smF p n es es.length).1 from rfl)
  have HNl := Lib.hid hN
  unfold netV at *
  go_enter Try.func44, Try.ntmps44
  have hw0 := below_one' w (.cells #[.int .i64 (n : Int), .slice E m ce] 66)
  obtain ⟨hc0, hc1⟩ := two_cells w (.int .i64 (n : Int)) (.slice E m ce) 66
  have hz0 : (w.alloc (.cells #[.int .i64 (n : Int), .slice E m ce] 66)).heap.size = w.heap.size + 1 := by simp
  go_wp2_with fail
  generalize w.alloc (.cells #[.int .i64 (n : Int), .slice E m ce] 66) = w0 at *
  refine (apart_c _).mono ?_
  rintro e w1 ⟨rfl, hp1', hb1⟩
  have hb01 := hw0.trans (hb1.mono hw0.size)
  have hc01 := Below.keeps hb1 _ _ hc0
  have hc11 := Below.keeps hb1 _ _ hc1
  go_wp2_with fail
  refine (HOr.out w1 (he.below hb01)).mono ?_
  rintro e w2 ⟨A, cA, rfl, hA, hb2, hAb, hcap⟩
  have hpt := hp1'.below hb2
  have hb02 := hb01.trans (hb2.mono hb01.size)
  have hc02 := Below.keeps hb2 _ _ hc01
  have hc12 := Below.keeps hb2 _ _ hc11
  clear hc0 hc1 hc01 hc11 hp1' HOr
  rw [hz0] at hpt
  go_wp2
  go_loopw [18, 5, 6] (fun i o b wr => ∃ (k out bb : Nat) (g ups : List Nat), k ≤ m ∧ i = .int .i64 ((k : Nat) : Int) ∧ o = .int .i64 ((out : Nat) : Int) ∧ b = .pointer (some ⟨bb, 0, none⟩) ∧ smF p n es k = (out, g) ∧ Pt wr bb ups ∧ Rep n ups g ∧ Below w2.heap.size w2 wr) (fun i _ _ _ => m - (intOf i).toNat)
  case atStart => exact ⟨0, 1, w.heap.size + 1, List.range n, List.range 16, Nat.zero_le _, rfl, rfl, rfl, rfl, hpt, Rep.start hn16, Below.refl _ _⟩
  case round =>
    obtain ⟨k, out, bb, g, ups, hkm, rfl, rfl, rfl, hsm, hpr, hR, hb⟩ := hrel
    obtain ⟨hoI, hgI⟩ := smF_inv p n es hn hp1 k
    rw [hsm] at hoI hgI
    have HS := Lib.hid hsm
    have HR := Lib.hid hR
    have HG := Lib.hid hgI
    have hoI : out < p := hoI
    clear hsm hR hgI
    have hc0r := (hb.cell (show w.heap.size < _ by have := hb02.size; have := hb2.size; have := hb1.size; omega)).trans hc02
    have hc1r := (hb.cell (show w.heap.size < _ by have := hb02.size; have := hb2.size; have := hb1.size; omega)).trans hc12
    by_cases hk : k < m
    · have hbe := hb02.trans (hb.mono hb02.size)
      have hxl : nat_ (ordL es) k ∈ ordL es := nat_mem (by have := hel.out; rw [ordL_length]; omega)
      have hx : nat_ (ordL es) k < m := by have := (ordL_mem es _).1 hxl; have := hel.out; omega
      obtain ⟨b2, o2, hA2, _, hlk⟩ := (hA.below hb).at_ hk
      obtain ⟨b3, o3, hE3, _, _, _, hwx⟩ := (he.below hbe).at_ hx
      have HSt := Lib.hid (smF_succ (p := p) (n := n) (es := es) (q := k))
      have HSB := Lib.hid (show smB es (ordL es) k = (decide (k + 1 < (ordL es).length) && decide (ew es (nat_ (ordL es) (k + 1)) = ew es (nat_ (ordL es) k))) from rfl)
      have e1 : IntKind.i64.wrap ((k : Int) + 1) = (k : Int) + 1 := by rw [IntKind.wrap_i64]; omega
      have e2 : ((k : Int) + 1).toNat = k + 1 := by omega
      have e3 : 0 ≤ (k : Int) + 1 := by omega
      subst hA2
      subst hE3
      by_cases h1 : k + 1 < m
      · have hd1 : decide ((k : Int) + 1 < (m : Int)) = true := by simp; omega
        have hyl : nat_ (ordL es) (k + 1) ∈ ordL es := nat_mem (by have := hel.out; rw [ordL_length]; omega)
        have hy : nat_ (ordL es) (k + 1) < m := by have := (ordL_mem es _).1 hyl; have := hel.out; omega
        obtain ⟨_, _, e, _, hlk1⟩ := (hA.below hb).at_ h1
        injection e with e; injection e with f2 f3; subst f2 f3
        obtain ⟨_, _, e, _, _, _, hwy⟩ := (he.below hbe).at_ hy
        injection e with e; injection e with f2 f3; subst f2 f3
        by_cases h2 : ew es (nat_ (ordL es) (k + 1)) = ew es (nat_ (ordL es) k)
        · as_aux_lemma =>
            have hd2 : (((ew es (nat_ (ordL es) (k + 1)) : Nat) : Int) == ((ew es (nat_ (ordL es) k) : Nat) : Int)) = true := by simp [h2]
            have HQ : Hid (smF p n es (k + 1) = (out, g)) := by
              rw [HSt.out, HS.out]
              unfold smS
              rw [if_pos]
              · exact rfl
              · rw [HSB.out, h2]; simp; rw [ordL_length]; have := hel.out; omega
            clear h2 HSt HSB
            generalize nat_ (ordL es) k = x at *
            generalize nat_ (ordL es) (k + 1) = y at *
            generalize ew es x = wx at *
            generalize ew es y = wy at *
            go_wp2
            go_quiet (fail)
            clear e1 e2 e3
            go_wp2
            refine ⟨⟨k + 1, out, bb, g, ups, by omega, by go_num, rfl, rfl, HQ.out, hpr.below (below_q _ _), HR.out, drewN_below hb _⟩, by simp [intOf]; omega⟩
        · as_aux_lemma =>
            have hd2 : (((ew es (nat_ (ordL es) (k + 1)) : Nat) : Int) == ((ew es (nat_ (ordL es) k) : Nat) : Int)) = false := by simp; omega
            have HNB : Hid (smB es (ordL es) k = false) := by rw [HSB.out]; simp [h2]; exact trivial
            generalize ew es (nat_ (ordL es) (k + 1)) = wy at *
            clear h2 HSB
            have HQ : Hid (smF p n es (k + 1) = (out * spP p n es g (kruG n es ((ordL es).take (k + 1))) (ew es (nat_ (ordL es) k)) % p, kruG n es ((ordL es).take (k + 1)))) := by
              rw [HSt.out, HS.out]
              unfold smS
              rw [HNB.out]
              exact rfl
            have hspl := spP_lt p n es g (kruG n es ((ordL es).take (k + 1))) (ew es (nat_ (ordL es) k)) hp1
            have hmm := mulmod out (spP p n es g (kruG n es ((ordL es).take (k + 1))) (ew es (nat_ (ordL es) k))) p (by omega) (by omega)
            have hol : out * spP p n es g (kruG n es ((ordL es).take (k + 1))) (ew es (nat_ (ordL es) k)) % p < p := Nat.mod_lt _ (by omega)
            have hAr := (hA.below hb).take (j := k + 1) (by omega)
            have her := he.below hbe
            have hTm : ∀ x ∈ (ordL es).take (k + 1), x < m := fun x hx => by have := (ordL_mem es x).1 (List.mem_of_mem_take hx); have := hel.out; omega
            have HSP := Lib.hid (fun W bb4 ups4 he4 hp4 hpb4 hR4 => spanning_c p n (some ⟨b3, o3, none⟩) m ce es bb bb4 ups ups4 g (kruG n es ((ordL es).take (k + 1))) (ew es (nat_ (ordL es) k)) W he4 HNl.out hp4 hpb4 HR.out hR4 (fun v _ => HG.out v) hp1 hp)
            have HJ := Lib.hid (fun W l c3 h h2 h3 => joined_c n (some ⟨b3, o3, none⟩) m ce es (some ⟨b2, o2, none⟩) l c3 ((ordL es).take (k + 1)) W h HNl.out h2 h3 hTm)
            unfold netV at HSP HJ
            clear hwx
            generalize spP p n es g (kruG n es ((ordL es).take (k + 1))) (ew es (nat_ (ordL es) k)) = sp at *
            generalize out * sp % p = o2' at *
            have hwx : ew es (nat_ (ordL es) k) ≤ 1000 := (HNl.out.2.2 _ (by have := hel.out; omega)).2.2
            obtain ⟨_, _, e, _, _, _, hwx2⟩ := her.at_ hx
            injection e with e; injection e with f2 f3; subst f2 f3
            generalize ew es (nat_ (ordL es) k) = wx at *
            generalize nat_ (ordL es) k = x at *
            clear HSt HNB
            go_wp2
            go_quiet (fail)
            clear e1 e2 e3 hd1
            go_wp2
            have ew1 : IntKind.i64.wrap ((k : Int) + 1) = ((k + 1 : Nat) : Int) := by rw [IntKind.wrap_i64]; omega
            have hbq := drewN_below hb nq
            have hc0q := Below.keeps (below_q wr nq) _ _ hc0r
            have hc1q := Below.keeps (below_q wr nq) _ _ hc1r
            have hArq := hAr.below (below_q wr nq)
            have herq := her.below (below_q wr nq)
            have hprq := hpr.below (below_q wr nq)
            generalize wr.drewN nq = wq at *
            refine wp_region_held_drew (S := fun w' => w'.cell? ⟨w.heap.size, 0, none⟩ = some (.int .i64 (n : Int)) ∧ w'.cell? ⟨w.heap.size, 1, none⟩ = some (.slice (some ⟨b3, o3, none⟩) m ce)) (by kernel_rfl) ⟨hc0q, hc1q⟩ (fun hHeld => ?_)
            refine wpAnyH_take (i := 0) (oi := ⟨some 49, _, _, _, _, _⟩) (v := ?_) rfl (by kernel_rfl) (by kernel_rfl) (by kernel_rfl) (fun _ _ _ h => h) (Or.inl ⟨by rfl, fun w hSw => ?_⟩) (by assumption) ?_
            rotate_left
            · obtain ⟨hSa, hSb⟩ := hSw
              go_simp
              try with_reducible rfl
            try simp only [Act.put, List.setIfInBounds_toArray, List.set_cons_zero, List.set_cons_succ]
            refine wpAnyH_take (i := 1) (oi := ⟨some 50, _, _, _, _, _⟩) (v := ?_) rfl (by kernel_rfl) (by kernel_rfl) (by kernel_rfl) (fun _ _ _ h => h) (Or.inl ⟨by rfl, fun w hSw => ?_⟩) (by assumption) ?_
            rotate_left
            · obtain ⟨hSa, hSb⟩ := hSw
              go_simp
              try with_reducible rfl
            try simp only [Act.put, List.setIfInBounds_toArray, List.set_cons_zero, List.set_cons_succ]
            refine wpAnyH_take (i := 2) (oi := ⟨some 51, _, _, _, _, _⟩) (v := ?_) rfl (by kernel_rfl) (by kernel_rfl) (by kernel_rfl) (fun _ _ _ h => h) (Or.inl ⟨by rfl, fun w hSw => ?_⟩) (by assumption) ?_
            rotate_left
            · obtain ⟨hSa, hSb⟩ := hSw
              go_simp
              try with_reducible rfl
            try simp only [Act.put, List.setIfInBounds_toArray, List.set_cons_zero, List.set_cons_succ]
            refine wpAnyH_take (i := 3) (oi := ⟨some 52, _, _, _, _, _⟩) (v := ?_) rfl (by kernel_rfl) (by kernel_rfl) (by kernel_rfl) (fun _ _ _ h => h) (Or.inl ⟨by rfl, fun w hSw => ?_⟩) (by assumption) ?_
            rotate_left
            · obtain ⟨hSa, hSb⟩ := hSw
              go_simp
              try with_reducible rfl
            try simp only [Act.put, List.setIfInBounds_toArray, List.set_cons_zero, List.set_cons_succ]
            refine wpAnyH_take (i := 4) (oi := ⟨some 53, _, _, _, _, _⟩) (v := .slice (some ⟨b2, o2, none⟩) (k + 1) cA) rfl (by kernel_rfl) (by kernel_rfl) (by kernel_rfl) (fun _ _ _ h => h) (Or.inl ⟨by rfl, fun w hSw => ?_⟩) (by assumption) ?_
            · exact run_op_sliceH w rfl rfl rfl (by first | exact ew1 | omega) (by omega)
            try simp only [Act.put, List.setIfInBounds_toArray, List.set_cons_zero, List.set_cons_succ]
            refine wpAnyH_ready (rs := [5]) (by kernel_rfl) (by simp) (AllReadyH.cons (o := ⟨some 54, _, _, _, _, _⟩) rfl (fun K hK => ?_) AllReadyH.nil)
            go_simp
            refine (HJ.out _ _ _ (herq.below (below_q wq 1)) (hArq.below (below_q wq 1)) (by omega)).mono ?_
            rintro e w4 ⟨b4, ups4, rfl, hp4, hR4, hb4, hpb4⟩
            have hbq4 := (below_q wq 1).trans hb4
            have hc04 := Below.keeps hbq4 _ _ hc0q
            have hc14 := Below.keeps hbq4 _ _ hc1q
            refine hK.out _ _ ⟨hc04, hc14⟩ (fun hHeld => ?_)
            clear hK K
            try simp only [Act.put, List.setIfInBounds_toArray, List.set_cons_zero, List.set_cons_succ]
            refine wpAnyH_tail 6 (by kernel_rfl) (by kernel_rfl) (by kernel_rfl) (fun q => ⟨hc04, hc14⟩) ?_
            simp only [List.drop_succ_cons, List.drop_zero]
            repeat (go_big_quiet_step (fail))
            refine wpQuiet_nil ?_
            rintro w6 ⟨nq, rfl⟩
            have HR4 := Lib.hid hR4
            have her4 := (herq.below hbq4).below (below_q w4 nq)
            have hp4q := hp4.below (below_q w4 nq)
            have hpr4 := (hprq.below hbq4).below (below_q w4 nq)
            have hb5 := drewN_below (hbq.trans (hbq4.mono hbq.size)) nq
            have hc05 := Below.keeps (below_q w4 nq) _ _ hc04
            have hc15 := Below.keeps (below_q w4 nq) _ _ hc14
            clear hHeld hc04 hc14 hb4 hbq4 hc0q hc1q hArq herq hprq hR4 hp4 hbq ew1
            generalize w4.drewN nq = w5 at *
            go_wp2_with fail
            refine (HSP.out w5 b4 ups4 her4 hpr4 hp4q HR4.out).mono ?_
            rintro e w7 ⟨rfl, hb7⟩
            have hp7 := hp4q.below hb7
            have hb57 := hb5.trans (hb7.mono hb5.size)
            clear her4 hpr4 hp4q
            go_wp2
            refine ⟨⟨k + 1, o2', b4, _, ups4, by omega, by go_num, rfl, rfl, HQ.out, hp7, HR4.out, hb57⟩, by simp [intOf]; omega⟩
      · as_aux_lemma =>
          have hd1 : decide ((k : Int) + 1 < (m : Int)) = false := by simp; omega
          have HNB : Hid (smB es (ordL es) k = false) := by rw [HSB.out]; simp; intro h; rw [ordL_length, hel.out] at h; omega
          clear HSB
          have HQ : Hid (smF p n es (k + 1) = (out * spP p n es g (kruG n es ((ordL es).take (k + 1))) (ew es (nat_ (ordL es) k)) % p, kruG n es ((ordL es).take (k + 1)))) := by
            rw [HSt.out, HS.out]
            unfold smS
            rw [HNB.out]
            exact rfl
          have hspl := spP_lt p n es g (kruG n es ((ordL es).take (k + 1))) (ew es (nat_ (ordL es) k)) hp1
          have hmm := mulmod out (spP p n es g (kruG n es ((ordL es).take (k + 1))) (ew es (nat_ (ordL es) k))) p (by omega) (by omega)
          have hol : out * spP p n es g (kruG n es ((ordL es).take (k + 1))) (ew es (nat_ (ordL es) k)) % p < p := Nat.mod_lt _ (by omega)
          have hAr := (hA.below hb).take (j := k + 1) (by omega)
          have her := he.below hbe
          have hTm : ∀ x ∈ (ordL es).take (k + 1), x < m := fun x hx => by have := (ordL_mem es x).1 (List.mem_of_mem_take hx); have := hel.out; omega
          have HSP := Lib.hid (fun W bb4 ups4 he4 hp4 hpb4 hR4 => spanning_c p n (some ⟨b3, o3, none⟩) m ce es bb bb4 ups ups4 g (kruG n es ((ordL es).take (k + 1))) (ew es (nat_ (ordL es) k)) W he4 HNl.out hp4 hpb4 HR.out hR4 (fun v _ => HG.out v) hp1 hp)
          have HJ := Lib.hid (fun W l c3 h h2 h3 => joined_c n (some ⟨b3, o3, none⟩) m ce es (some ⟨b2, o2, none⟩) l c3 ((ordL es).take (k + 1)) W h HNl.out h2 h3 hTm)
          unfold netV at HSP HJ
          clear hwx
          generalize spP p n es g (kruG n es ((ordL es).take (k + 1))) (ew es (nat_ (ordL es) k)) = sp at *
          generalize out * sp % p = o2' at *
          have hwx : ew es (nat_ (ordL es) k) ≤ 1000 := (HNl.out.2.2 _ (by have := hel.out; omega)).2.2
          obtain ⟨_, _, e, _, _, _, hwx2⟩ := her.at_ hx
          injection e with e; injection e with f2 f3; subst f2 f3
          generalize ew es (nat_ (ordL es) k) = wx at *
          generalize nat_ (ordL es) k = x at *
          clear HSt HNB
          go_wp2
          go_quiet (fail)
          clear e1 e2 e3 hd1
          go_wp2
          have ew1 : IntKind.i64.wrap ((k : Int) + 1) = ((k + 1 : Nat) : Int) := by rw [IntKind.wrap_i64]; omega
          have hbq := drewN_below hb nq
          have hc0q := Below.keeps (below_q wr nq) _ _ hc0r
          have hc1q := Below.keeps (below_q wr nq) _ _ hc1r
          have hArq := hAr.below (below_q wr nq)
          have herq := her.below (below_q wr nq)
          have hprq := hpr.below (below_q wr nq)
          generalize wr.drewN nq = wq at *
          refine wp_region_held_drew (S := fun w' => w'.cell? ⟨w.heap.size, 0, none⟩ = some (.int .i64 (n : Int)) ∧ w'.cell? ⟨w.heap.size, 1, none⟩ = some (.slice (some ⟨b3, o3, none⟩) m ce)) (by kernel_rfl) ⟨hc0q, hc1q⟩ (fun hHeld => ?_)
          refine wpAnyH_take (i := 0) (oi := ⟨some 49, _, _, _, _, _⟩) (v := ?_) rfl (by kernel_rfl) (by kernel_rfl) (by kernel_rfl) (fun _ _ _ h => h) (Or.inl ⟨by rfl, fun w hSw => ?_⟩) (by assumption) ?_
          rotate_left
          · obtain ⟨hSa, hSb⟩ := hSw
            go_simp
            try with_reducible rfl
          try simp only [Act.put, List.setIfInBounds_toArray, List.set_cons_zero, List.set_cons_succ]
          refine wpAnyH_take (i := 1) (oi := ⟨some 50, _, _, _, _, _⟩) (v := ?_) rfl (by kernel_rfl) (by kernel_rfl) (by kernel_rfl) (fun _ _ _ h => h) (Or.inl ⟨by rfl, fun w hSw => ?_⟩) (by assumption) ?_
          rotate_left
          · obtain ⟨hSa, hSb⟩ := hSw
            go_simp
            try with_reducible rfl
          try simp only [Act.put, List.setIfInBounds_toArray, List.set_cons_zero, List.set_cons_succ]
          refine wpAnyH_take (i := 2) (oi := ⟨some 51, _, _, _, _, _⟩) (v := ?_) rfl (by kernel_rfl) (by kernel_rfl) (by kernel_rfl) (fun _ _ _ h => h) (Or.inl ⟨by rfl, fun w hSw => ?_⟩) (by assumption) ?_
          rotate_left
          · obtain ⟨hSa, hSb⟩ := hSw
            go_simp
            try with_reducible rfl
          try simp only [Act.put, List.setIfInBounds_toArray, List.set_cons_zero, List.set_cons_succ]
          refine wpAnyH_take (i := 3) (oi := ⟨some 52, _, _, _, _, _⟩) (v := ?_) rfl (by kernel_rfl) (by kernel_rfl) (by kernel_rfl) (fun _ _ _ h => h) (Or.inl ⟨by rfl, fun w hSw => ?_⟩) (by assumption) ?_
          rotate_left
          · obtain ⟨hSa, hSb⟩ := hSw
            go_simp
            try with_reducible rfl
          try simp only [Act.put, List.setIfInBounds_toArray, List.set_cons_zero, List.set_cons_succ]
          refine wpAnyH_take (i := 4) (oi := ⟨some 53, _, _, _, _, _⟩) (v := .slice (some ⟨b2, o2, none⟩) (k + 1) cA) rfl (by kernel_rfl) (by kernel_rfl) (by kernel_rfl) (fun _ _ _ h => h) (Or.inl ⟨by rfl, fun w hSw => ?_⟩) (by assumption) ?_
          · exact run_op_sliceH w rfl rfl rfl (by first | exact ew1 | omega) (by omega)
          try simp only [Act.put, List.setIfInBounds_toArray, List.set_cons_zero, List.set_cons_succ]
          refine wpAnyH_ready (rs := [5]) (by kernel_rfl) (by simp) (AllReadyH.cons (o := ⟨some 54, _, _, _, _, _⟩) rfl (fun K hK => ?_) AllReadyH.nil)
          go_simp
          refine (HJ.out _ _ _ (herq.below (below_q wq 1)) (hArq.below (below_q wq 1)) (by omega)).mono ?_
          rintro e w4 ⟨b4, ups4, rfl, hp4, hR4, hb4, hpb4⟩
          have hbq4 := (below_q wq 1).trans hb4
          have hc04 := Below.keeps hbq4 _ _ hc0q
          have hc14 := Below.keeps hbq4 _ _ hc1q
          refine hK.out _ _ ⟨hc04, hc14⟩ (fun hHeld => ?_)
          clear hK K
          try simp only [Act.put, List.setIfInBounds_toArray, List.set_cons_zero, List.set_cons_succ]
          refine wpAnyH_tail 6 (by kernel_rfl) (by kernel_rfl) (by kernel_rfl) (fun q => ⟨hc04, hc14⟩) ?_
          simp only [List.drop_succ_cons, List.drop_zero]
          repeat (go_big_quiet_step (fail))
          refine wpQuiet_nil ?_
          rintro w6 ⟨nq, rfl⟩
          have HR4 := Lib.hid hR4
          have her4 := (herq.below hbq4).below (below_q w4 nq)
          have hp4q := hp4.below (below_q w4 nq)
          have hpr4 := (hprq.below hbq4).below (below_q w4 nq)
          have hb5 := drewN_below (hbq.trans (hbq4.mono hbq.size)) nq
          have hc05 := Below.keeps (below_q w4 nq) _ _ hc04
          have hc15 := Below.keeps (below_q w4 nq) _ _ hc14
          clear hHeld hc04 hc14 hb4 hbq4 hc0q hc1q hArq herq hprq hR4 hp4 hbq ew1
          generalize w4.drewN nq = w5 at *
          go_wp2_with fail
          refine (HSP.out w5 b4 ups4 her4 hpr4 hp4q HR4.out).mono ?_
          rintro e w7 ⟨rfl, hb7⟩
          have hp7 := hp4q.below hb7
          have hb57 := hb5.trans (hb7.mono hb5.size)
          clear her4 hpr4 hp4q
          go_wp2
          refine ⟨⟨k + 1, o2', b4, _, ups4, by omega, by go_num, rfl, rfl, HQ.out, hp7, HR4.out, hb57⟩, by simp [intOf]; omega⟩
    · as_aux_lemma =>
        obtain rfl : m = k := by omega
        have HF : Hid (smP p n es = out) := by rw [HSm.out, hel.out, HS.out]; exact rfl
        have hbe := hb02.trans (hb.mono hb02.size)
        go_wp2
        go_ret
        rw [HF.out]
        exact ⟨rfl, hbe⟩

end Go.Proofs.Ytpfbichomgojoaa
