/- Walk: the reference's Forests. -/
import Derived.Test.YtpfbichomgojoaaMz
namespace Go.Proofs.Ytpfbichomgojoaa
open Go.RowKit

theorem Cells.butS {w w' : World} {A : Option Addr} {vs : List Value} {S : Nat → Prop} (h : Cells w A vs) (hb : ButS S w w') (hne : ∀ q, blk A = some q → ¬ S q) : Cells w' A vs := by
  intro j hj
  obtain ⟨b, o, hA, hc⟩ := h j hj
  subst hA
  rw [List.getElem?_eq_getElem hj] at hc ⊢
  exact ⟨b, o, rfl, hb.cell hc (hne b rfl)⟩
theorem RdN.butS {w w' : World} {A : Option Addr} {n : Nat} {xs : List Nat} {S : Nat → Prop} (h : RdN w A n xs) (hb : ButS S w w') (hne : ∀ q, blk A = some q → ¬ S q) : RdN w' A n xs := ⟨h.1, h.2.butS hb hne⟩
theorem foF_succ {n : Nat} {es : List Ed} {g : List Nat} {w q : Nat} : foF n es g w (q + 1) = foK es g w (foF n es g w q) q := by unfold foF; exact foldl_range
theorem foF_inv {n : Nat} (es : List Ed) {g : List Nat} (w : Nat) (hn : 0 < n) (hg : g.length = n) (hl : ∀ x ∈ g, x < n) (q : Nat) :
    (foF n es g w q).1.length = n ∧ (∀ x ∈ (foF n es g w q).1, x < n) ∧ SqI n (foF n es g w q).2 ∧ ∀ i j, -(4 * (q : Int)) ≤ int_ (rowI (foF n es g w q).2 i) j ∧ int_ (rowI (foF n es g w q).2 i) j ≤ 4 * (q : Int) := by
  induction q with
  | zero => exact ⟨hg, hl, zeroI_sq n, fun i j => by show _ ≤ int_ (rowI (zeroI n) i) j ∧ int_ (rowI (zeroI n) i) j ≤ _; rw [zeroI_at]; omega⟩
  | succ q ih =>
    obtain ⟨h1, h2, h3, h4⟩ := ih
    rw [foF_succ]
    unfold foK
    split
    · exact ⟨h1, h2, h3, fun i j => by have := h4 i j; omega⟩
    · have hla := nat_lt_of hl hn
      refine ⟨by rw [joinL_length]; exact h1, joinL_lt h2 hn _ _, foA_sq h3, fun i j => ?_⟩
      have := foA_bd h3 (hla (ed_ es q).a) (hla (ed_ es q).b) h4 i j
      dsimp only
      constructor <;> omega
theorem foC_mem {n : Nat} {g after : List Nat} {v u : Nat} (h : u ∈ foC n g after v) : u < n := by
  unfold foC at h
  have := (List.mem_filter.1 h).1
  rw [List.mem_range'_1] at this; omega
theorem foC_len (n : Nat) (g after : List Nat) (v : Nat) : (foC n g after v).length ≤ n - (v + 1) := by
  unfold foC
  have := List.length_filter_le (fun u => decide (nat_ g u = u) && decide (nat_ after u = v)) (List.range' (v + 1) (n - (v + 1)))
  simpa using this
theorem crt_int2 (a b pw : Nat) (ha : a < 1000000007) (hb : b < 998244353) (hp : pw < 998244353) :
    wrap64 ((a : Int) + wrap64 (1000000007 * (wrap64 (((b : Int) - (a : Int)) % 998244353 * (pw : Int))).tmod 998244353)) = ((a + 1000000007 * ((b + 998244353 - a % 998244353) % 998244353 * pw % 998244353) : Nat) : Int) := by
  have e1 : ((b : Int) - (a : Int)) % 998244353 = (((b + 998244353 - a % 998244353) % 998244353 : Nat) : Int) := by omega
  rw [e1]
  have hx : (b + 998244353 - a % 998244353) % 998244353 < 998244353 := Nat.mod_lt _ (by omega)
  generalize (b + 998244353 - a % 998244353) % 998244353 = x at *
  have h2 : x * pw ≤ 998244353 * 998244353 := Nat.mul_le_mul (by omega) (by omega)
  have e2 : wrap64 ((x : Int) * (pw : Int)) = ((x * pw : Nat) : Int) := by rw [← Int.natCast_mul]; unfold wrap64; omega
  rw [e2]
  have e3 : (((x * pw : Nat) : Int)).tmod 998244353 = ((x * pw % 998244353 : Nat) : Int) := rfl
  rw [e3]
  have hk : x * pw % 998244353 < 998244353 := Nat.mod_lt _ (by omega)
  generalize x * pw % 998244353 = k at *
  have e4 : wrap64 (1000000007 * (k : Int)) = ((1000000007 * k : Nat) : Int) := by unfold wrap64; omega
  rw [e4]
  unfold wrap64; omega

theorem ite_yes {c : Prop} [Decidable c] {A B : Prop} (h : c) (a : A) : if c then A else B := by rw [if_pos h]; exact a
theorem app_wp {P : Program} {o : Oper} {a : Act} {w w' : World} {K : Act → World → Prop} {Q : Exit → Act → World → Prop} {s x : Operand} {A A2 A' : Option Addr} {n c m c2 n' c' : Nat}
    (ho : o.op = .call { callee := .builtin .append, args := #[s, x], argTypes := #[24, 24] }) (hs : a.eval s = .slice A n c) (hx : a.eval x = .slice A2 m c2)
    (hrun : (Builtin.append_ #[24, 24] o.type #[.slice A n c, .slice A2 m c2]).run P w = .ok (.slice A' n' c') w') (h : K (a.put o.dst (.slice A' n' c')) w') : Oper.wp P o a w K Q := by
  unfold Oper.wp execOp
  simp only [ho, resolve, invoke, builtin, Sem.run_bind, Sem.run_pure, Result.andThen_ok, List.map_toArray, List.map_cons, List.map_nil, hs, hx, hrun]
  exact h
theorem foC_part {g after : List Nat} {v q : Nat} : (List.range' (v + 1) (q + 1)).filter (fun u => decide (nat_ g u = u) && decide (nat_ after u = v)) =
    if (decide (nat_ g (v + 1 + q) = v + 1 + q) && decide (nat_ after (v + 1 + q) = v)) = true then (List.range' (v + 1) q).filter (fun u => decide (nat_ g u = u) && decide (nat_ after u = v)) ++ [v + 1 + q]
    else (List.range' (v + 1) q).filter (fun u => decide (nat_ g u = u) && decide (nat_ after u = v)) := by
  rw [List.range'_concat, List.filter_append, Nat.one_mul]
  cases h : (decide (nat_ g (v + 1 + q) = v + 1 + q) && decide (nat_ after (v + 1 + q) = v)) <;> simp [h]
theorem foR_take {M : List (List Int)} {P : List Nat} {i : Nat} (h : i < P.length) : (foR M P).take (i + 1) = (foR M P).take i ++ [P.map (fun k => int_ (rowI M (nat_ P i)) k)] := by
  unfold foR
  rw [List.take_succ_eq_append_getElem (by simpa using h), nat_get h]
  simp
theorem foRr_take {M : List (List Int)} {P : List Nat} {i j : Nat} (h : j < P.length) : (P.map (fun k => int_ (rowI M i) k)).take (j + 1) = (P.map (fun k => int_ (rowI M i) k)).take j ++ [int_ (rowI M i) (nat_ P j)] := by
  rw [List.take_succ_eq_append_getElem (by simpa using h), nat_get h]
  simp
theorem foR_bd {M : List (List Int)} {P : List Nat} {B : Int} (hB : 0 ≤ B) (h : ∀ i j, -B ≤ int_ (rowI M i) j ∧ int_ (rowI M i) j ≤ B) : ∀ i j, -B ≤ int_ (rowI (foR M P) i) j ∧ int_ (rowI (foR M P) i) j ≤ B := by
  intro i j
  unfold foR
  have h0 : ∀ (xs : List Int), (∀ x ∈ xs, -B ≤ x ∧ x ≤ B) → ∀ j, -B ≤ int_ xs j ∧ int_ xs j ≤ B := fun xs hx j => by
    by_cases hj : j < xs.length
    · exact hx _ (int_mem hj)
    · unfold int_; rw [List.getD_eq_getElem?_getD, List.getElem?_eq_none (by omega)]; simp; omega
  refine h0 _ (fun x hx => ?_) j
  unfold rowI at hx
  rw [List.getD_eq_getElem?_getD, List.getElem?_map] at hx
  cases hP : P[i]? with
  | none => rw [hP] at hx; simp at hx
  | some y =>
    rw [hP] at hx
    simp only [Option.map_some, Option.getD_some, List.mem_map] at hx
    obtain ⟨k, _, rfl⟩ := hx
    exact h y k

set_option maxHeartbeats 8000000 in
set_option maxRecDepth 100000 in
theorem RForests_c (n : Nat) (E : Option Addr) (m ce : Nat) (es : List Ed) (G : Option Addr) (cg : Nat) (g : List Nat) (wt : Nat) (w : World) (he : RdE w E m es) (hN : InN n es) (hn : 0 < n) (hG : RdN w G n g) (hl : ∀ x ∈ g, x < n)
    (hbd : ∀ q, q ≤ n → foQ n es g wt q ≤ 4611686018427387904) :
    Calls Try.prog 48 #[.int .i64 (n : Int), .slice E m ce, .int .i64 (wt : Int), .slice G n cg] w fun e w' => e = .returned (.int .i64 ((foP n es g wt : Nat) : Int)) ∧ Below w.heap.size w w' := by
  have hel := Lib.hid he.len
  have hn16 := hN.1
  have hm60 : m ≤ 60 := by have := hN.2.1; have := hel.out; omega
  have HBD := Lib.hid hbd
  have HFI := Lib.hid (fun q => foF_inv (n := n) es wt hn hG.1 hl q)
  have HFP := Lib.hid (show foP n es g wt = foQ n es g wt n from rfl)
  have hgb : ∀ q, blk G = some q → q < w.heap.size := fun q hq => by
    obtain ⟨b, o, rfl, hb, _⟩ := hG.at_ hn
    have hq : some b = some q := hq
    injection hq with hq; omega
  clear hbd
  go_enter Try.func48, Try.ntmps48
  go_wp2_with ((with_reducible show Go.wpList _ _ _ ({ dst := some 30, op := _, type := _, pos := _, after := _, guard := _ } :: _) _ _); refine wpList_mk sl57 rfl rfl _ _ rfl rfl rfl (by omega) (by omega) ?_; intro w1 ho1 hb1; refine stopHere ?_)
  unfold Stopped
  have hMB := MatB.start ho1
  have hz1 := (own_lt ho1 _ rfl).2
  clear ho1
  go_wp2
  go_loopw [11] (fun i wx => ∃ (k : Nat) (ds : List (Option Addr × Nat)), k ≤ n ∧ i = .int .i64 ((k : Nat) : Int) ∧ MatB wx w.heap.size (some ⟨w.heap.size, 0, none⟩) n n ds k ∧ Below w.heap.size w wx ∧ w.heap.size < wx.heap.size) (fun i _ => n - (intOf i).toNat)
  case atStart => exact ⟨0, [], Nat.zero_le _, rfl, hMB, hb1, hz1⟩
  case round =>
    clear hMB hb1 hz1
    obtain ⟨k, ds, hkn, rfl, hMB, hb1, hz1⟩ := hrel
    by_cases hk : k < n
    · as_aux_lemma =>
        go_wp2_with ((with_reducible show Go.wpList _ _ _ ({ dst := some 39, op := _, type := _, pos := _, after := _, guard := _ } :: _) _ _); refine wpList_mk sl24 rfl rfl _ _ rfl rfl rfl (by omega) (by omega) ?_; intro w4 ho4 hb4; refine stopHere ?_)
        unfold Stopped
        have hz4 := (own_lt ho4 _ rfl).2
        have hrow : OwnN w4 w.heap.size (some ⟨wr.heap.size, 0, none⟩) n n (List.replicate n 0) := by
          unfold OwnN
          rw [show nv (List.replicate n 0) = List.replicate n (.int .i64 0) by simp [nv]]
          exact own_mono ho4 (by omega)
        obtain ⟨q, hO, hq1, _, h3, h4, h5, h6⟩ := (hMB.below hb4).put hk hrow (by intro e; injection e with e; have e : w.heap.size = wr.heap.size := e; omega)
          (fun j hj e => by have := (own_lt (hMB.row j hj) _ e).2; omega)
        injection hO with hO; injection hO with hO; subst hO
        have HP5 := Lib.hid h5
        have HP6 := Lib.hid h6
        have HBN := Lib.hid (hb1.trans (hb4.mono hb1.size))
        clear h5 h6 hrow ho4 hMB
        go_wp2
        refine ⟨⟨k + 1, ds ++ [(some ⟨wr.heap.size, 0, none⟩, n)], by omega, by go_num, HP5.out, HBN.out.trans (below_of_grown HP6.out (by omega) (Nat.le_refl _)), by have := HP6.out.size; omega⟩, by simp [intOf]; omega⟩
    · obtain rfl : n = k := by omega
      have hM0 := hMB.done.toI
      have hrbk : ∀ i q, i < n → blk (d_ ds i).1 = some q → w.heap.size ≤ q ∧ q < wr.heap.size := fun i q hi hq => by have := own_lt (hMB.row i hi) q hq; omega
      clear hMB
      go_wp2
      obtain ⟨wf, rfl⟩ : ∃ wf, wf = wr := ⟨_, rfl⟩
      go_loopw [12, 9] (fun i g9 wx => ∃ (k : Nat) (A9 : Option Addr) (c9 : Nat) (after : List Nat) (M : List (List Int)), k ≤ m ∧ i = .int .i64 ((k : Nat) : Int) ∧ g9 = .slice A9 n c9 ∧ foF n es g wt k = (after, M) ∧
        MatI wx w.heap.size (some ⟨w.heap.size, 0, none⟩) n n n ds M ∧ RdN wx A9 n after ∧ (∀ q, blk A9 = some q → ¬ (w.heap.size ≤ q ∧ q < wf.heap.size)) ∧ ButS (fun q => w.heap.size ≤ q ∧ q < wf.heap.size) wf wx) (fun i _ _ => m - (intOf i).toNat)
      case atStart => exact ⟨0, G, cg, g, zeroI n, Nat.zero_le _, rfl, rfl, rfl, hM0, ⟨hG.1, hG.2.below hb1⟩, fun q hq => by have := hgb q hq; omega, ButS.refl _ _⟩
      case round =>
        obtain ⟨k, A9, c9, after, M, hkm, rfl, rfl, hF, hM, hA9, hA9b, hbs⟩ := hrel
        have HF := Lib.hid hF
        obtain ⟨hi1, hi2, hi3, hi4⟩ := HFI.out k
        rw [hF] at hi1 hi2 hi3 hi4
        have hi1 : after.length = n := hi1
        have hi2 : ∀ x ∈ after, x < n := hi2
        have HSQ : Hid (SqI n M) := hi3
        have HBM : Hid (∀ i j, -(4 * (k : Int)) ≤ int_ (rowI M i) j ∧ int_ (rowI M i) j ≤ 4 * (k : Int)) := hi4
        have Hi1 := Lib.hid hi1
        have Hi2 := Lib.hid hi2
        have hbw : Below w.heap.size w wr := hb1.trans (hbs.below hb1.size (fun q h => h.1))
        clear hF hi1 hi2 hi3 hi4
        by_cases hk : k < m
        · obtain ⟨hea, heb, hew⟩ := hN.2.2 k (by have := hel.out; omega)
          obtain ⟨b1, o1, hE1, _, ha1, hb1c, hw1⟩ := (he.below hbw).at_ hk
          obtain ⟨b2, o2, hG1, _, hga⟩ := (RdN.below hG hbw).at_ hea
          obtain ⟨_, _, e, _, hgbb⟩ := (RdN.below hG hbw).at_ heb
          rw [hG1] at e; injection e with e; injection e with e1 e2; subst e1 e2
          have hla := nat_lt_of hl hn (ed_ es k).a
          have hlb := nat_lt_of hl hn (ed_ es k).b
          have HFS := Lib.hid (foF_succ (n := n) (es := es) (g := g) (w := wt) (q := k))
          have HFK := Lib.hid (show foK es g wt (after, M) k = if foB es g wt k = true then (after, M) else (joinL after (nat_ g (ed_ es k).a) (nat_ g (ed_ es k).b), foA M (nat_ g (ed_ es k).a) (nat_ g (ed_ es k).b)) from rfl)
          have HFB := Lib.hid (show foB es g wt k = (decide (ew es k ≠ wt) || decide (nat_ g (ed_ es k).a = nat_ g (ed_ es k).b)) from rfl)
          subst hE1 hG1
          generalize nat_ g (ed_ es k).a = la at *
          generalize nat_ g (ed_ es k).b = lb at *
          by_cases hW : ew es k = wt
          · have hdW : (((ew es k : Nat) : Int) != (wt : Int)) = false := by simp [hW]
            by_cases hI : la = lb
            · as_aux_lemma =>
                have hdI : (((la : Nat) : Int) == ((lb : Nat) : Int)) = true := by simp [hI]
                have HQ : Hid (foF n es g wt (k + 1) = (after, M)) := by rw [HFS.out, HF.out, HFK.out, if_pos (by rw [HFB.out]; simp [hI])]; exact rfl
                clear hI hW
                go_wp2
                go_quiet (fail)
                go_wp2
                refine ⟨⟨k + 1, A9, c9, after, M, by omega, by go_num, rfl, HQ.out, hM.below (below_q _ _), hA9.below (below_q _ _), hA9b, hbs.drewN _⟩, by simp [intOf]; omega⟩
            · as_aux_lemma =>
                have hdI : (((la : Nat) : Int) == ((lb : Nat) : Int)) = false := by simp; omega
                have HQ : Hid (foF n es g wt (k + 1) = (joinL after la lb, foA M la lb)) := by rw [HFS.out, HF.out, HFK.out, if_neg (by rw [HFB.out]; simp [hI, hW])]; exact rfl
                clear hW
                go_wp2
                go_quiet (fail)
                go_wp2_with fail
                refine (rjoin_c A9 n c9 after la lb _ (hA9.below (below_q wr _)) (by omega) hla hlb (fun i => by have := nat_lt_of Hi2.out hn i; omega)).mono ?_
                rintro e w5 ⟨A5, c5, rfl, ho5, hb5⟩
                have hM5 := (hM.below (below_q wr nq)).below hb5
                have hs5 := hb5.size
                have hs5' : wr.heap.size ≤ w5.heap.size := hs5
                have hbs5 : ButS (fun q => w.heap.size ≤ q ∧ q < wf.heap.size) wf w5 := (hbs.drewN nq).trans (ButS.of_below hb5)
                have hA5 := ho5.rd
                have hA5b : ∀ q, blk A5 = some q → ¬ (w.heap.size ≤ q ∧ q < wf.heap.size) := fun q hq => by
                  have h1 := (own_lt ho5 q hq).1
                  have h1 : wr.heap.size ≤ q := h1
                  have := hbs.size; omega
                obtain ⟨b3, hO3, _, _, hra⟩ := hM5.at_ hla
                injection hO3 with hO3; injection hO3 with hO3; subst hO3
                obtain ⟨_, hO3, _, _, hrb⟩ := hM5.at_ hlb
                injection hO3 with hO3; injection hO3 with hO3; subst hO3
                obtain ⟨ga, eA, _⟩ := hM5.put hla hla 0
                obtain ⟨gb, eB, _⟩ := hM5.put hlb hlb 0
                unfold rowV at hra hrb
                rw [eA] at hra
                rw [eB] at hrb
                have hab : la ≠ lb := hI
                clear hM ho5 hb5 hA9 ha1 hb1c hw1 hga hgbb
                go_wp2
                go_quiet (fail)
                obtain ⟨_, _, eA', eB', hne, _, _, hgl1, hgl2, c1, c2, c3, c4, f1, f2, f3, f4, hM6, hS6⟩ := (hM5.below (below_q w5 nq)).four HSQ.out hla hlb hab
                rw [eA] at eA'; injection eA' with eA'; injection eA' with eA'; subst eA'
                rw [eB] at eB'; injection eB' with eB'; injection eB' with eB'; subst eB'
                have HM6 := Lib.hid hM6
                have HS6 := Lib.hid (hS6 (fun q => w.heap.size ≤ q ∧ q < wf.heap.size) (hrbk la _ hla (by rw [eA]; rfl)) (hrbk lb _ hlb (by rw [eB]; rfl)))
                have d1 := HBM.out la la
                have d2 := HBM.out la lb
                have d3 := HBM.out lb lb
                have d4 := HBM.out lb la
                generalize int_ (rowI M la) la = x1 at *
                generalize int_ (rowI M la) lb = x2 at *
                generalize int_ (rowI M lb) lb = x3 at *
                generalize int_ (rowI M lb) la = x4 at *
                have hab' : ¬ la = lb := hab
                have hba' : ¬ lb = la := fun e => hab e.symm
                have hne' : ¬ ga = gb := hne
                have hne2 : ¬ gb = ga := fun e => hne e.symm
                have hbs6 := (hbs5.drewN nq).trans HS6.out
                have hA6 := (hA5.below (below_q w5 nq)).butS HS6.out hA5b
                clear hM6 hS6 hM5 eA eB hab hne
                go_wp2
                refine ⟨⟨k + 1, A5, c5, joinL after la lb, foA M la lb, by omega, by go_num, rfl, HQ.out, HM6.out, hA6, hA5b, hbs6⟩, by simp [intOf]; omega⟩
          · as_aux_lemma =>
              have hdW : (((ew es k : Nat) : Int) != (wt : Int)) = true := by simp; omega
              have HQ : Hid (foF n es g wt (k + 1) = (after, M)) := by rw [HFS.out, HF.out, HFK.out, if_pos (by rw [HFB.out]; simp [hW])]; exact rfl
              clear hW
              go_wp2
              go_quiet (fail)
              go_wp2
              refine ⟨⟨k + 1, A9, c9, after, M, by omega, by go_num, rfl, HQ.out, hM.below (below_q _ _), hA9.below (below_q _ _), hA9b, hbs.drewN _⟩, by simp [intOf]; omega⟩
        · obtain rfl : m = k := by omega
          have HQ1 : Hid (∀ v, foQ n es g wt (v + 1) = foV n g after M (foQ n es g wt v) v) := fun v => by
            have h : foQ n es g wt (v + 1) = foV n g (foF n es g wt es.length).1 (foF n es g wt es.length).2 (foQ n es g wt v) v := by unfold foQ; exact foldl_range
            rw [h, hel.out, HF.out]
          have HB2 : Hid (∀ P i j, -1000 ≤ int_ (rowI (foR M P) i) j ∧ int_ (rowI (foR M P) i) j ≤ 1000) := fun P i j => by
            have := foR_bd (P := P) (by omega) HBM.out i j
            constructor <;> omega
          have hQ0 : foQ n es g wt 0 = 1 := rfl
          have HQ0 := Lib.hid hQ0
          clear hQ0 HF HFI hM0 hb1
          go_wp2
          obtain ⟨wz, rfl⟩ : ∃ wz, wz = wr := ⟨_, rfl⟩
          go_loopw [18, 17] (fun i o wx => ∃ v : Nat, v ≤ n ∧ i = .int .i64 ((v : Nat) : Int) ∧ o = .int .i64 ((foQ n es g wt v : Nat) : Int) ∧ Below wz.heap.size wz wx) (fun i _ _ => n - (intOf i).toNat)
          case atStart => exact ⟨0, Nat.zero_le _, rfl, by rw [HQ0.out]; rfl, Below.refl _ _⟩
          case round =>
            obtain ⟨v, hvn, rfl, rfl, hbv⟩ := hrel
            have hbvw := hbw.trans (hbv.mono hbw.size)
            by_cases hv : v < n
            · obtain ⟨b9, o9, hA9e, _, hav⟩ := (hA9.below hbv).at_ hv
              by_cases hroot : nat_ after v = v
              · as_aux_lemma =>
                  have hdr : (((nat_ after v : Nat) : Int) != ((v : Nat) : Int)) = false := by simp [hroot]
                  have HV := Lib.hid (show foQ n es g wt (v + 1) = foQ n es g wt v * crtN 1000000007 998244353 (detI 1000000007 (foR M (foC n g after v))) (detI 998244353 (foR M (foC n g after v))) by rw [HQ1.out]; unfold foV; rw [if_pos hroot])
                  clear hroot
                  subst hA9e
                  generalize nat_ after v = av at *
                  go_wp2
                  obtain ⟨W0, rfl⟩ : ∃ W0, W0 = wr := ⟨_, rfl⟩
                  have HCC := Lib.hid (show foC n g after v = (List.range' (v + 1) (n - (v + 1))).filter (fun u => decide (nat_ g u = u) && decide (nat_ after u = v)) from rfl)
                  go_loopw [20, 19] (fun u P wx => ∃ (u0 : Nat) (A : Option Addr) (ca : Nat), v + 1 ≤ u0 ∧ u0 ≤ n ∧ u = .int .i64 ((u0 : Nat) : Int) ∧ P = .slice A ((List.range' (v + 1) (u0 - (v + 1))).filter (fun u => decide (nat_ g u = u) && decide (nat_ after u = v))).length ca ∧
                    OwnN wx W0.heap.size A ((List.range' (v + 1) (u0 - (v + 1))).filter (fun u => decide (nat_ g u = u) && decide (nat_ after u = v))).length ca ((List.range' (v + 1) (u0 - (v + 1))).filter (fun u => decide (nat_ g u = u) && decide (nat_ after u = v))) ∧ Below W0.heap.size W0 wx) (fun u _ _ => n - (intOf u).toNat)
                  case atStart => exact ⟨v + 1, none, 0, Nat.le_refl _, by omega, by go_num, by rw [Nat.sub_self]; rfl, by rw [Nat.sub_self]; exact OwnN.none_ _ _, Below.refl _ _⟩
                  case round =>
                    obtain ⟨u0, A, ca, hu1, hu2, rfl, rfl, hoP, hbp⟩ := hrel
                    have hbpz := hbv.trans (hbp.mono hbv.size)
                    have hbpw := hbw.trans (hbpz.mono hbw.size)
                    have hszp := hbp.size
                    by_cases hu : u0 < n
                    · obtain ⟨b2, o2, hGe, _, hgu⟩ := (RdN.below hG hbpw).at_ hu
                      obtain ⟨_, _, e, _, hau⟩ := (hA9.below hbpz).at_ hu
                      injection e with e; injection e with e1 e2; subst e1 e2
                      have HPt := Lib.hid (foC_part (g := g) (after := after) (v := v) (q := u0 - (v + 1)))
                      have hfl : ((List.range' (v + 1) (u0 - (v + 1))).filter (fun u => decide (nat_ g u = u) && decide (nat_ after u = v))).length ≤ 16 := by
                        have := List.length_filter_le (fun u => decide (nat_ g u = u) && decide (nat_ after u = v)) (List.range' (v + 1) (u0 - (v + 1)))
                        rw [List.length_range'] at this; omega
                      rw [show v + 1 + (u0 - (v + 1)) = u0 by omega, show u0 - (v + 1) + 1 = u0 + 1 - (v + 1) by omega] at HPt
                      generalize (List.range' (v + 1) (u0 - (v + 1))).filter (fun u => decide (nat_ g u = u) && decide (nat_ after u = v)) = P at *
                      subst hGe
                      by_cases h1 : nat_ g u0 = u0
                      · have hd1 : (((nat_ g u0 : Nat) : Int) == ((u0 : Nat) : Int)) = true := by simp [h1]
                        by_cases h2 : nat_ after u0 = v
                        · as_aux_lemma =>
                            have hd2 : (((nat_ after u0 : Nat) : Int) == ((v : Nat) : Int)) = true := by simp [h2]
                            have HP1 : Hid ((List.range' (v + 1) (u0 + 1 - (v + 1))).filter (fun u => decide (nat_ g u = u) && decide (nat_ after u = v)) = P ++ [u0]) := by rw [HPt.out, if_pos (by simp [h1, h2])]; exact rfl
                            have HP2 : Hid (((List.range' (v + 1) (u0 + 1 - (v + 1))).filter (fun u => decide (nat_ g u = u) && decide (nat_ after u = v))).length = P.length + 1) := by rw [HP1.out]; simp; exact trivial
                            clear h1 h2 HPt
                            generalize nat_ g u0 = gu at *
                            generalize nat_ after u0 = au at *
                            go_wp2_with ((with_reducible show Go.wpList _ _ _ ({ dst := some 154, op := _, type := _, pos := _, after := _, guard := _ } :: _) _ _); refine wpList_push_n (v := u0) hoP rfl _ _ rfl rfl rfl (by omega) hszp ?_; intro A' c' w' ho' hb' hg')
                            refine ⟨⟨u0 + 1, A', c', by omega, by omega, by go_num, by rw [HP2.out], by rw [HP2.out, HP1.out]; exact ho', hbp.trans hb'⟩, by simp [intOf]; omega⟩
                        · as_aux_lemma =>
                            have hd2 : (((nat_ after u0 : Nat) : Int) == ((v : Nat) : Int)) = false := by simp; omega
                            have HP1 : Hid ((List.range' (v + 1) (u0 + 1 - (v + 1))).filter (fun u => decide (nat_ g u = u) && decide (nat_ after u = v)) = P) := by rw [HPt.out, if_neg (by simp [h1, h2])]; exact rfl
                            clear h1 h2 HPt
                            generalize nat_ g u0 = gu at *
                            generalize nat_ after u0 = au at *
                            go_wp2
                            refine ⟨⟨u0 + 1, A, ca, by omega, by omega, by go_num, by rw [HP1.out], by rw [HP1.out]; exact hoP, hbp⟩, by simp [intOf]; omega⟩
                      · as_aux_lemma =>
                          have hd1 : (((nat_ g u0 : Nat) : Int) == ((u0 : Nat) : Int)) = false := by simp; omega
                          have HP1 : Hid ((List.range' (v + 1) (u0 + 1 - (v + 1))).filter (fun u => decide (nat_ g u = u) && decide (nat_ after u = v)) = P) := by rw [HPt.out, if_neg (by simp [h1])]; exact rfl
                          clear h1 HPt
                          generalize nat_ g u0 = gu at *
                          go_wp2
                          refine ⟨⟨u0 + 1, A, ca, by omega, by omega, by go_num, by rw [HP1.out], by rw [HP1.out]; exact hoP, hbp⟩, by simp [intOf]; omega⟩
                    · obtain rfl : n = u0 := by omega
                      rw [← HCC.out] at hoP ⊢
                      have hPm : ∀ x ∈ foC n g after v, x < n := fun x hx => foC_mem hx
                      have hPl := foC_len n g after v
                      generalize foC n g after v = P at *
                      have hrP := hoP.rd
                      have hPA := fun q hq => (own_lt hoP q hq).2
                      clear hoP
                      go_wp2
                      obtain ⟨W1, rfl⟩ : ∃ W1, W1 = wr := ⟨_, rfl⟩
                      go_loopw [22, 21] (fun i R wx => ∃ (i0 : Nat) (O : Option Addr) (c : Nat) (ds2 : List (Option Addr × Nat)), i0 ≤ P.length ∧ i = .int .i64 ((i0 : Nat) : Int) ∧ R = .slice O i0 c ∧ MatI wx W1.heap.size O i0 P.length c ds2 ((foR M P).take i0) ∧ Below W1.heap.size W1 wx) (fun i _ _ => P.length - (intOf i).toNat)
                      case atStart => exact ⟨0, none, 0, [], Nat.zero_le _, rfl, rfl, MatI.nil _ _ _, Below.refl _ _⟩
                      case round =>
                        obtain ⟨i0, O, c, ds2, hi0, rfl, rfl, hR, hbr⟩ := hrel
                        have hszr := hbr.size
                        by_cases hi : i0 < P.length
                        · as_aux_lemma =>
                            have hi0' := hi0
                            go_wp2
                            obtain ⟨W2, rfl⟩ : ∃ W2, W2 = wr := ⟨_, rfl⟩
                            go_loopw [24, 23] (fun k r wy => ∃ (j : Nat) (Ar : Option Addr) (cr : Nat), j ≤ P.length ∧ k = .int .i64 ((j : Nat) : Int) ∧ r = .slice Ar j cr ∧ OwnI wy W2.heap.size Ar j cr ((P.map (fun k => int_ (rowI M (nat_ P i0)) k)).take j) ∧ Below W2.heap.size W2 wy) (fun k _ _ => P.length - (intOf k).toNat)
                            case atStart => exact ⟨0, none, 0, Nat.zero_le _, rfl, rfl, OwnI.none_ _ _, Below.refl _ _⟩
                            case round =>
                              obtain ⟨j, Ar, cr, hj0, rfl, rfl, hoR, hby⟩ := hrel
                              have hszy := hby.size
                              have hb1y := hbr.trans (hby.mono hszr)
                              by_cases hj : j < P.length
                              · as_aux_lemma =>
                                  have hpi := hPm _ (nat_mem hi)
                                  have hpj := hPm _ (nat_mem hj)
                                  have hM2 := hM.below (hbpz.trans (hb1y.mono hbpz.size))
                                  have hrP2 := RdN.below hrP hb1y
                                  obtain ⟨bp, op, hAe, _, k1⟩ := hrP2.at_ hi
                                  obtain ⟨_, _, e, _, k2⟩ := hrP2.at_ hj
                                  rw [hAe] at e; injection e with e; injection e with e1 e2; subst e1 e2
                                  obtain ⟨_, hO3, _, _, k3⟩ := hM2.at_ hpi
                                  injection hO3 with hO3; injection hO3 with hO3; subst hO3
                                  obtain ⟨gr, eR, _, hgrl, k4, _⟩ := hM2.put hpi hpj 0
                                  obtain ⟨gr', eR', _, hgrz, _⟩ := hM.put hpi hpj 0
                                  rw [eR] at eR'; injection eR' with eR'; injection eR' with eR'; subst eR'
                                  unfold rowV at k3
                                  rw [eR] at k3
                                  subst hAe
                                  have hbpl := hPA bp rfl
                                  have hwzl := hbw.size
                                  have hwz2 := hbpz.size
                                  have hxb := HBM.out (nat_ P i0) (nat_ P j)
                                  have HT := Lib.hid (foRr_take (M := M) (P := P) (i := nat_ P i0) hj)
                                  generalize int_ (rowI M (nat_ P i0)) (nat_ P j) = x at *
                                  generalize hPi : nat_ P i0 = pi at *
                                  generalize hPj : nat_ P j = pj at *
                                  clear hPi hPj eR
                                  have hbA := drewN_below (below_one' wr (.cells #[.int .i64 x] 3)) 1
                                  have hoA := own_below hoR hbA
                                  have hcA := (cells_new wr (.int .i64 x) 3).below (below_q (wr.alloc (.cells #[.int .i64 x] 3)) 1)
                                  go_wp2
                                  refine wp_region_held_drew (S := fun w' => w'.cell? ⟨bp, op + i0, none⟩ = some (.int .i64 ((pi : Nat) : Int)) ∧ w'.cell? ⟨bp, op + j, none⟩ = some (.int .i64 ((pj : Nat) : Int)) ∧ w'.cell? ⟨w.heap.size, pi, none⟩ = some (.slice (some ⟨gr, 0, none⟩) n (d_ ds pi).2) ∧ w'.cell? ⟨gr, pj, none⟩ = some (.int .i64 x)) (by kernel_rfl) ⟨k1, k2, k3, k4⟩ (fun hHeld => ?_)
                                  refine wpAnyH_take (i := 0) (oi := ⟨some 167, _, _, _, _, _⟩) (v := ?_) rfl (by kernel_rfl) (by kernel_rfl) (by kernel_rfl) (fun _ _ _ h => h) (Or.inl ⟨by rfl, fun w hSw => ?_⟩) (by assumption) ?_
                                  rotate_left
                                  · obtain ⟨hSa, hSb, hSc, hSd⟩ := hSw
                                    go_simp
                                    try with_reducible rfl
                                  try simp only [Act.put, List.setIfInBounds_toArray, List.set_cons_zero, List.set_cons_succ]
                                  refine wpAnyH_take (i := 1) (oi := ⟨some 168, _, _, _, _, _⟩) (v := ?_) rfl (by kernel_rfl) (by kernel_rfl) (by kernel_rfl) (fun _ _ _ h => h) (Or.inl ⟨by rfl, fun w hSw => ?_⟩) (by assumption) ?_
                                  rotate_left
                                  · obtain ⟨hSa, hSb, hSc, hSd⟩ := hSw
                                    go_simp
                                    try with_reducible rfl
                                  try simp only [Act.put, List.setIfInBounds_toArray, List.set_cons_zero, List.set_cons_succ]
                                  refine wpAnyH_take (i := 2) (oi := ⟨some 169, _, _, _, _, _⟩) (v := ?_) rfl (by kernel_rfl) (by kernel_rfl) (by kernel_rfl) (fun _ _ _ h => h) (Or.inl ⟨by rfl, fun w hSw => ?_⟩) (by assumption) ?_
                                  rotate_left
                                  · obtain ⟨hSa, hSb, hSc, hSd⟩ := hSw
                                    go_simp
                                    try with_reducible rfl
                                  try simp only [Act.put, List.setIfInBounds_toArray, List.set_cons_zero, List.set_cons_succ]
                                  refine wpAnyH_take (i := 3) (oi := ⟨some 170, _, _, _, _, _⟩) (v := ?_) rfl (by kernel_rfl) (by kernel_rfl) (by kernel_rfl) (fun _ _ _ h => h) (Or.inl ⟨by rfl, fun w hSw => ?_⟩) (by assumption) ?_
                                  rotate_left
                                  · obtain ⟨hSa, hSb, hSc, hSd⟩ := hSw
                                    go_simp
                                    try with_reducible rfl
                                  try simp only [Act.put, List.setIfInBounds_toArray, List.set_cons_zero, List.set_cons_succ]
                                  refine wpAnyH_take (i := 4) (oi := ⟨some 171, _, _, _, _, _⟩) (v := ?_) rfl (by kernel_rfl) (by kernel_rfl) (by kernel_rfl) (fun _ _ _ h => h) (Or.inl ⟨by rfl, fun w hSw => ?_⟩) (by assumption) ?_
                                  rotate_left
                                  · obtain ⟨hSa, hSb, hSc, hSd⟩ := hSw
                                    go_simp
                                    try with_reducible rfl
                                  try simp only [Act.put, List.setIfInBounds_toArray, List.set_cons_zero, List.set_cons_succ]
                                  refine wpAnyH_take (i := 5) (oi := ⟨some 172, _, _, _, _, _⟩) (v := ?_) rfl (by kernel_rfl) (by kernel_rfl) (by kernel_rfl) (fun _ _ _ h => h) (Or.inl ⟨by rfl, fun w hSw => ?_⟩) (by assumption) ?_
                                  rotate_left
                                  · obtain ⟨hSa, hSb, hSc, hSd⟩ := hSw
                                    go_simp
                                    try with_reducible rfl
                                  try simp only [Act.put, List.setIfInBounds_toArray, List.set_cons_zero, List.set_cons_succ]
                                  refine wpAnyH_take (i := 6) (oi := ⟨some 173, _, _, _, _, _⟩) (v := ?_) rfl (by kernel_rfl) (by kernel_rfl) (by kernel_rfl) (fun _ _ _ h => h) (Or.inl ⟨by rfl, fun w hSw => ?_⟩) (by assumption) ?_
                                  rotate_left
                                  · obtain ⟨hSa, hSb, hSc, hSd⟩ := hSw
                                    go_simp
                                    try with_reducible rfl
                                  try simp only [Act.put, List.setIfInBounds_toArray, List.set_cons_zero, List.set_cons_succ]
                                  refine wpAnyH_take (i := 7) (oi := ⟨some 174, _, _, _, _, _⟩) (v := ?_) rfl (by kernel_rfl) (by kernel_rfl) (by kernel_rfl) (fun _ _ _ h => h) (Or.inl ⟨by rfl, fun w hSw => ?_⟩) (by assumption) ?_
                                  rotate_left
                                  · obtain ⟨hSa, hSb, hSc, hSd⟩ := hSw
                                    go_simp
                                    try with_reducible rfl
                                  try simp only [Act.put, List.setIfInBounds_toArray, List.set_cons_zero, List.set_cons_succ]
                                  refine wpAnyH_take (i := 8) (oi := ⟨some 175, _, _, _, _, _⟩) (v := ?_) rfl (by kernel_rfl) (by kernel_rfl) (by kernel_rfl) (fun _ _ _ h => h) (Or.inl ⟨by rfl, fun w hSw => ?_⟩) (by assumption) ?_
                                  rotate_left
                                  · obtain ⟨hSa, hSb, hSc, hSd⟩ := hSw
                                    go_simp
                                    try with_reducible rfl
                                  try simp only [Act.put, List.setIfInBounds_toArray, List.set_cons_zero, List.set_cons_succ]
                                  refine wpAnyH_take (i := 9) (oi := ⟨some 176, _, _, _, _, _⟩) (v := ?_) rfl (by kernel_rfl) (by kernel_rfl) (by kernel_rfl) (fun _ _ _ h => h) (Or.inl ⟨by rfl, fun w hSw => ?_⟩) (by assumption) ?_
                                  rotate_left
                                  · obtain ⟨hSa, hSb, hSc, hSd⟩ := hSw
                                    go_simp
                                    try with_reducible rfl
                                  try simp only [Act.put, List.setIfInBounds_toArray, List.set_cons_zero, List.set_cons_succ]
                                  refine wpAnyH_take (i := 10) (oi := ⟨some 177, _, _, _, _, _⟩) (v := ?_) rfl (by kernel_rfl) (by kernel_rfl) (by kernel_rfl) (fun _ _ _ h => h) (Or.inl ⟨by rfl, fun w hSw => ?_⟩) (by assumption) ?_
                                  rotate_left
                                  · obtain ⟨hSa, hSb, hSc, hSd⟩ := hSw
                                    go_simp
                                    try with_reducible rfl
                                  try simp only [Act.put, List.setIfInBounds_toArray, List.set_cons_zero, List.set_cons_succ]
                                  refine wpAnyH_take (i := 11) (oi := ⟨some 178, _, _, _, _, _⟩) (v := ?_) rfl (by kernel_rfl) (by kernel_rfl) (by kernel_rfl) (fun _ _ _ h => h) (Or.inl ⟨by rfl, fun w hSw => ?_⟩) (by assumption) ?_
                                  rotate_left
                                  · obtain ⟨hSa, hSb, hSc, hSd⟩ := hSw
                                    go_simp
                                    try with_reducible rfl
                                  try simp only [Act.put, List.setIfInBounds_toArray, List.set_cons_zero, List.set_cons_succ]
                                  refine wpAnyH_take (i := 12) (oi := ⟨some 179, _, _, _, _, _⟩) (v := ?_) rfl (by kernel_rfl) (by kernel_rfl) (by kernel_rfl) (fun _ _ _ h => h) (Or.inl ⟨by rfl, fun w hSw => ?_⟩) (by assumption) ?_
                                  rotate_left
                                  · obtain ⟨hSa, hSb, hSc, hSd⟩ := hSw
                                    go_simp
                                    try with_reducible rfl
                                  try simp only [Act.put, List.setIfInBounds_toArray, List.set_cons_zero, List.set_cons_succ]
                                  refine wpAnyH_take (i := 13) (oi := ⟨some 180, _, _, _, _, _⟩) (v := ?_) rfl (by kernel_rfl) (by kernel_rfl) (by kernel_rfl) (fun _ _ _ h => h) (Or.inl ⟨by rfl, fun w hSw => ?_⟩) (by assumption) ?_
                                  rotate_left
                                  · obtain ⟨hSa, hSb, hSc, hSd⟩ := hSw
                                    go_simp
                                    try with_reducible rfl
                                  try simp only [Act.put, List.setIfInBounds_toArray, List.set_cons_zero, List.set_cons_succ]
                                  refine wpAnyH_ready (rs := [14]) (by kernel_rfl) (by simp) (AllReadyH.cons (o := ⟨some 181, _, _, _, _, _⟩) rfl (fun K hK => ?_) AllReadyH.nil)
                                  go_simp
                                  have hWA : ∃ wA, wA = (wr.alloc (.cells #[.int .i64 x] 3)).drew := ⟨_, rfl⟩
                                  obtain ⟨wA, hWA⟩ := hWA
                                  have hWA' : (wr.alloc (.cells #[.int .i64 x] 3)).drewN 1 = wA := hWA.symm
                                  rw [← hWA]
                                  rw [hWA'] at hbA hoA hcA
                                  clear hWA hWA'
                                  refine hK.out _ _ ⟨Below.keeps hbA _ _ k1, Below.keeps hbA _ _ k2, Below.keeps hbA _ _ k3, Below.keeps hbA _ _ k4⟩ (fun hHeld => ?_)
                                  clear hK K
                                  try simp only [Act.put, List.setIfInBounds_toArray, List.set_cons_zero, List.set_cons_succ]
                                  obtain ⟨A6, c6, w6, hrun, ho6, hg6, ha6⟩ := run_app sl24 wA 24 hoA (A2 := some ⟨wr.heap.size, 0, none⟩) (m := 1) (c2 := 1) (news := [.int .i64 x]) rfl hcA (by intro u hu; simp at hu; subst hu; rfl) (by omega) (by omega) (by have := hbA.size; omega)
                                  have hb6 : Below W2.heap.size wA w6 := (Below.refl _ wA).grown hg6 (by have := hbA.size; omega) (fun q hq => (own_lt hoA q hq).1)
                                  have hb26 : Below W2.heap.size W2 w6 := (hby.trans (hbA.mono hszy)).trans hb6
                                  refine wpAnyH_ready (rs := [15]) (by kernel_rfl) (by simp) (AllReadyH.cons (o := ⟨some 182, _, _, _, _, _⟩) rfl (fun K hK => ?_) AllReadyH.nil)
                                  refine ite_yes (by rfl) ?_
                                  refine app_wp rfl rfl rfl hrun ?_
                                  refine hK.out _ _ ⟨(hb6.cell (p := ⟨bp, op + i0, none⟩) (by show bp < _; omega)).trans (Below.keeps hbA _ _ k1), (hb6.cell (p := ⟨bp, op + j, none⟩) (by show bp < _; omega)).trans (Below.keeps hbA _ _ k2),
                                    (hb6.cell (p := ⟨w.heap.size, pi, none⟩) (by show w.heap.size < _; omega)).trans (Below.keeps hbA _ _ k3), (hb6.cell (p := ⟨gr, pj, none⟩) (by show gr < _; omega)).trans (Below.keeps hbA _ _ k4)⟩ (fun hHeld => ?_)
                                  clear hK K hrun
                                  try simp only [Act.put, List.setIfInBounds_toArray, List.set_cons_zero, List.set_cons_succ]
                                  refine wpAnyH_take (i := 16) (oi := ⟨some 23, _, _, _, _, _⟩) (v := ?_) rfl (by kernel_rfl) (by kernel_rfl) (by kernel_rfl) (fun _ _ _ h => h) (Or.inl ⟨by rfl, fun w hSw => ?_⟩) (by assumption) ?_
                                  rotate_left
                                  · obtain ⟨hSa, hSb, hSc, hSd⟩ := hSw
                                    go_simp
                                    try with_reducible rfl
                                  try simp only [Act.put, List.setIfInBounds_toArray, List.set_cons_zero, List.set_cons_succ]
                                  refine wpAnyH_done (by kernel_rfl) ?_ _
                                  have ho6' : OwnI w6 W2.heap.size A6 (j + 1) c6 ((P.map (fun k => int_ (rowI M pi) k)).take (j + 1)) := by
                                    rw [HT.out]; unfold OwnI; rw [iv_append]; exact ho6
                                  go_wp2
                                  refine ⟨⟨j + 1, A6, c6, by omega, by go_num, rfl, ho6', hb26⟩, by simp [intOf]; omega⟩
                              · as_aux_lemma =>
                                  have hjl : P.length ≤ j := by omega
                                  obtain rfl : j = P.length := by omega
                                  rw [List.take_of_length_le (by simp)] at hoR
                                  have hRy := hR.below hby
                                  have HT := Lib.hid (foR_take (M := M) (P := P) (i := i0) hi)
                                  have hOl : ∀ q, blk O = some q → q < W2.heap.size := fun q hq => (own_lt hR.outer q hq).2
                                  have hdl : ∀ i q, i < i0 → blk (d_ ds2 i).1 = some q → q < W2.heap.size := fun i q hi hq => hR.lt hi hq
                                  have hwy : W1.heap.size ≤ wr.heap.size := hb1y.size
                                  go_wp2_with ((with_reducible show Go.wpList _ _ _ ({ dst := some 186, op := _, type := _, pos := _, after := _, guard := _ } :: _) _ _); refine wpList_push_s hRy.outer rfl _ _ rfl rfl rfl (by omega) hwy ?_; intro O' c' w' ho' hb' hg')
                                  have hP := MatI.push hRy hoR hszr hOl hdl ho' hg'
                                  refine ⟨⟨i0 + 1, O', c', _, by omega, by go_num, rfl, by rw [HT.out]; exact hP, hb1y.trans hb'⟩, by simp [intOf]; omega⟩
                        · as_aux_lemma =>
                            have hil : P.length ≤ i0 := by omega
                            obtain rfl : i0 = P.length := by omega
                            rw [List.take_of_length_le (by simp [foR])] at hR
                            have hRd := hR.rd rfl
                            have HD1 := Lib.hid (fun W h => Rdet_c 1000000007 O P.length c ds2 (foR M P) W h (by omega) (by omega) (by omega) (HB2.out P))
                            have HD2 := Lib.hid (fun W h => Rdet_c 998244353 O P.length c ds2 (foR M P) W h (by omega) (by omega) (by omega) (HB2.out P))
                            have ha3 : detI 1000000007 (foR M P) < 1000000007 := detGo_lt (by omega) _ _ (by omega)
                            have hb3 : detI 998244353 (foR M P) < 998244353 := detGo_lt (by omega) _ _ (by omega)
                            have HC := Lib.hid (show crtN 1000000007 998244353 (detI 1000000007 (foR M P)) (detI 998244353 (foR M P)) = detI 1000000007 (foR M P) + 1000000007 * ((detI 998244353 (foR M P) + 998244353 - detI 1000000007 (foR M P) % 998244353) % 998244353 * powP 1755654 998244351 998244353 % 998244353) from rfl)
                            have hpl : powP 1755654 998244351 998244353 < 998244353 := powP_lt (by omega)
                            have HPW := Lib.hid (fun W => Rpower_c 1755654 998244351 998244353 W (by omega) (by omega) (by omega) (by omega))
                            generalize powP 1755654 998244351 998244353 = pw at *
                            generalize detI 1000000007 (foR M P) = a at *
                            generalize detI 998244353 (foR M P) = b at *
                            have hfin := HBD.out (v + 1) (by omega)
                            rw [HV.out] at hfin
                            have hci := crt_int2 a b pw ha3 hb3 hpl
                            rw [← HC.out] at hci
                            have HCI := Lib.hid hci
                            clear hci
                            generalize crtN 1000000007 998244353 a b = N at *
                            generalize foQ n es g wt v = out at *
                            have HMUL := Lib.hid (show wrap64 ((out : Int) * (N : Int)) = ((out * N : Nat) : Int) by rw [← Int.natCast_mul]; unfold wrap64; omega)
                            have hbz1 := hbpz.trans (hbr.mono hbpz.size)
                            go_wp2_with fail
                            refine (HD1.out _ hRd).mono ?_
                            rintro e w5 ⟨rfl, hb5⟩
                            have hRd5 := hRd.below hb5
                            go_wp2_with fail
                            refine (HD2.out _ hRd5).mono ?_
                            rintro e w6 ⟨rfl, hb6⟩
                            go_wp2_with fail
                            refine (HPW.out _).mono ?_
                            rintro e w7 ⟨rfl, rfl⟩
                            have hbz6 := (hbz1.trans (hb5.mono hbz1.size)).trans (hb6.mono (Nat.le_trans hbz1.size hb5.size))
                            clear HD1 HD2 HPW hRd hRd5 hR hfin
                            go_wp2
                            refine ⟨⟨v + 1, by omega, by go_num, ?_, hbz6⟩, by simp [intOf]; omega⟩
                            rw [HV.out, HCI.out, HMUL.out]
              · as_aux_lemma =>
                  have hdr : (((nat_ after v : Nat) : Int) != ((v : Nat) : Int)) = true := by simp; omega
                  have HV := Lib.hid (show foQ n es g wt (v + 1) = foQ n es g wt v by rw [HQ1.out]; unfold foV; rw [if_neg hroot])
                  clear hroot
                  subst hA9e
                  generalize nat_ after v = av at *
                  go_wp2
                  refine ⟨⟨v + 1, by omega, by go_num, by rw [HV.out], hbv⟩, by simp [intOf]; omega⟩
            · as_aux_lemma =>
                obtain rfl : n = v := by omega
                go_wp2
                go_ret
                rw [HFP.out]
                exact ⟨rfl, hbvw⟩

end Go.Proofs.Ytpfbichomgojoaa
