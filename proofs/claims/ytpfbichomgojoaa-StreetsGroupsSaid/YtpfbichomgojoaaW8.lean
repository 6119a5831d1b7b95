/- Walk: the reference's determinant. -/
import Derived.Test.YtpfbichomgojoaaW7
import Derived.Test.YtpfbichomgojoaaP19
namespace Go.Proofs.Ytpfbichomgojoaa
open Go.RowKit

/-- 's = append(s, x)' of slices. -/
theorem wpList_push_s {ops : Array Oper} {rest : List Oper} {o : Oper} {a : Act} {w : World} {Q : Exit → Act → World → Prop} {B k c : Nat} {O : Option Addr} {vs : List Value} {A : Option Addr} {s ca : Nat} (hown : w.ownsRow B 24 1 (.slice O k c) k vs)
    (hgd : o.guard = none) (s' x : Operand) (ho : o.op = .call { callee := .builtin .append, args := #[s', x], argTypes := #[57, 57] }) (hs : a.eval s' = .slice O k c)
    (hx : a.eval x = .slice (some ⟨w.heap.size, 0, none⟩) 1 1) (hn : k ≤ 1000000) (hB : B ≤ w.heap.size)
    (h : ∀ O' c' w', w'.ownsRow B 24 1 (.slice O' (k + 1) c') (k + 1) (vs ++ [.slice A s ca]) → Below B w w' → Grew w w' O O' → wpList Try.prog ops Q rest (a.put o.dst (.slice O' (k + 1) c')) w') :
    wpList Try.prog ops Q (o :: rest) a (w.alloc (.cells #[.slice A s ca] 24)) := by
  refine wpList_app sl57 hgd s' x ho hs (World.ownsRow.alloc hown _) hx (news := [.slice A s ca]) rfl (cells_new _ _ _) (by intro u hu; simp at hu; subst hu; rfl) (by omega) (by omega) (by simp; omega) ?_
  intro A' c' w' h1 h2 h3
  have hg : Grew w w' O A' := ⟨grownBy_of_alloc h2, by
    rcases h3 with h3 | h3
    · exact .inl h3
    · exact .inr ⟨_, h3, by simp⟩⟩
  exact h A' c' w' h1 (hg.below hB (fun k hk => (own_lt hown k hk).1)) hg

/-- A matrix of which k rows are there. -/
structure MatA (w : World) (B : Nat) (O : Option Addr) (k s c : Nat) (ds : List (Option Addr × Nat)) (M : List (List Nat)) : Prop where
  outer : w.ownsRow B 24 1 (.slice O k c) k (ds.map (rowV s))
  len : M.length = k
  row : ∀ i, i < k → OwnN w B (d_ ds i).1 s (d_ ds i).2 (row_ M i)
  apart : ∀ i j, i < k → j < k → i ≠ j → Dj (d_ ds i).1 (d_ ds j).1
  out : ∀ i, i < k → Dj O (d_ ds i).1
theorem MatA.nil (w : World) (B s : Nat) : MatA w B none 0 s 0 [] [] := ⟨World.ownsRow_nil _ _ _ _, rfl, fun i hi => by omega, fun i j hi => by omega, fun i hi => by omega⟩
theorem MatA.done {w : World} {B : Nat} {O : Option Addr} {s c : Nat} {ds : List (Option Addr × Nat)} {M : List (List Nat)} (h : MatA w B O s s c ds M) : Mat w B O s c ds M := ⟨h.outer, h.len, h.row, h.apart, h.out⟩
theorem MatA.below {w w' : World} {B : Nat} {O : Option Addr} {k s c : Nat} {ds : List (Option Addr × Nat)} {M : List (List Nat)} (h : MatA w B O k s c ds M) (hb : Below w.heap.size w w') : MatA w' B O k s c ds M :=
  ⟨own_below h.outer hb, h.len, fun i hi => own_below (h.row i hi) hb, h.apart, h.out⟩
theorem MatA.lt {w : World} {B : Nat} {O : Option Addr} {k s c : Nat} {ds : List (Option Addr × Nat)} {M : List (List Nat)} (h : MatA w B O k s c ds M) {i q : Nat} (hi : i < k) (hb : blk (d_ ds i).1 = some q) : q < w.heap.size := (own_lt (h.row i hi) q hb).2
theorem MatA.push {w w' : World} {B B2 : Nat} {O O' : Option Addr} {k s c c' : Nat} {ds : List (Option Addr × Nat)} {M : List (List Nat)} {A : Option Addr} {ca : Nat} {x : List Nat} (h : MatA w B O k s c ds M)
    (hr : OwnN w B2 A s ca x) (hB2 : B ≤ B2) (hO : ∀ q, blk O = some q → q < B2) (hd : ∀ i q, i < k → blk (d_ ds i).1 = some q → q < B2)
    (ho : w'.ownsRow B 24 1 (.slice O' (k + 1) c') (k + 1) (ds.map (rowV s) ++ [.slice A s ca])) (hg : Grew w w' O O') : MatA w' B O' (k + 1) s c' (ds ++ [(A, ca)]) (M ++ [x]) := by
  have hdl : ds.length = k := by have := h.outer.1; simpa using this
  have hD : ∀ i, i < k → d_ (ds ++ [(A, ca)]) i = d_ ds i := fun i hi => by rw [d_snoc, if_pos (by omega)]
  have hDk : d_ (ds ++ [(A, ca)]) k = (A, ca) := by rw [d_snoc, if_neg (by omega), if_pos (by omega)]
  have hM : ∀ i, i < k → row_ (M ++ [x]) i = row_ M i := fun i hi => by
    unfold row_
    rw [List.getD_eq_getElem?_getD, List.getD_eq_getElem?_getD, List.getElem?_append_left (by rw [h.len]; exact hi)]
  have hMk : row_ (M ++ [x]) k = x := by rw [row_get (by simp [h.len])]; simp [h.len]
  have hAO : Dj O A := fun q h1 h2 => by have := hO q h1; have := (own_lt hr q h2).1; omega
  refine ⟨by rw [List.map_append]; exact ho, by simp [h.len], fun i hi => ?_, fun i j hi hj hij => ?_, fun i hi => ?_⟩
  · by_cases e : i = k
    · subst e; rw [hDk, hMk]
      exact own_mono (own_grew hr hg (fun q h1 h2 => hAO q h2 h1)) hB2
    · rw [hD i (by omega), hM i (by omega)]
      exact own_grew (h.row i (by omega)) hg (fun q h1 h2 => h.out i (by omega) q h2 h1)
  · by_cases e1 : i = k
    · rw [e1, hDk, hD j (by omega)]
      intro q h1 h2; have := (own_lt hr q h1).1; have := hd j q (by omega) h2; omega
    · by_cases e2 : j = k
      · rw [e2, hDk, hD i (by omega)]
        intro q h1 h2; have := (own_lt hr q h2).1; have := hd i q (by omega) h1; omega
      · rw [hD i (by omega), hD j (by omega)]; exact h.apart i j (by omega) (by omega) hij
  · by_cases e : i = k
    · subst e; rw [hDk]; exact hAO.push hg hr
    · rw [hD i (by omega)]; exact (h.out i (by omega)).push hg (h.row i (by omega))

/-- A matrix of whole numbers that is read. -/
structure RdMI (w : World) (O : Option Addr) (s : Nat) (ds : List (Option Addr × Nat)) (R : List (List Int)) : Prop where
  len : R.length = s
  dlen : ds.length = s
  outer : Cells w O (ds.map (rowV s))
  row : ∀ i, i < s → RdI w (d_ ds i).1 s (rowI R i)
theorem RdMI.below {w w' : World} {O : Option Addr} {s : Nat} {ds : List (Option Addr × Nat)} {R : List (List Int)} (h : RdMI w O s ds R) (hb : Below w.heap.size w w') : RdMI w' O s ds R :=
  ⟨h.len, h.dlen, h.outer.below hb, fun i hi => (h.row i hi).below hb⟩
theorem RdMI.at_ {w : World} {O : Option Addr} {s : Nat} {ds : List (Option Addr × Nat)} {R : List (List Int)} (h : RdMI w O s ds R) {i j : Nat} (hi : i < s) (hj : j < s) :
    ∃ b o b2 o2, O = some ⟨b, o, none⟩ ∧ w.cell? ⟨b, o + i, none⟩ = some (.slice (some ⟨b2, o2, none⟩) s (d_ ds i).2) ∧ w.cell? ⟨b2, o2 + j, none⟩ = some (.int .i64 (int_ (rowI R i) j)) := by
  obtain ⟨b, o, hO, _, h1⟩ := h.outer.at_ (k := i) (v := rowV s (d_ ds i)) (by rw [List.getElem?_map, List.getElem?_eq_getElem (by rw [h.dlen]; exact hi), d_get (by rw [h.dlen]; exact hi)]; rfl)
  obtain ⟨b2, o2, hA, _, h2⟩ := (h.row i hi).at_ hj
  refine ⟨b, o, b2, o2, hO, ?_, h2⟩
  rw [h1]; unfold rowV; rw [hA]

theorem nrm_op (x : Int) (p : Nat) (hp1 : 1 < p) (hp : p ≤ 2147483647) (h1 : -1000 ≤ x) (h2 : x ≤ 1000) :
    ∃ v1 : Int, x.tmod (p : Int) = v1 ∧ -1000 ≤ v1 ∧ v1 ≤ 1000 ∧ (v1 + (p : Int)).tmod (p : Int) = (((x % (p : Int)).toNat : Nat) : Int) := by
  refine ⟨_, rfl, ?_⟩
  rcases (show x < 0 ∨ 0 ≤ x by omega) with hx | hx
  · obtain ⟨m, rfl⟩ : ∃ m : Nat, x = -(m : Int) := ⟨(-x).toNat, by omega⟩
    have e1 : (-(m : Int)).tmod (p : Int) = -((m % p : Nat) : Int) := by rw [Int.neg_tmod]; rfl
    have hm : m % p ≤ m := Nat.mod_le _ _
    have hmp : m % p < p := Nat.mod_lt _ (by omega)
    rw [e1]
    refine ⟨by omega, by omega, ?_⟩
    have e2 : -((m % p : Nat) : Int) + (p : Int) = ((p - m % p : Nat) : Int) := by omega
    rw [e2]
    have e3 : (((p - m % p : Nat) : Int)).tmod (p : Int) = (((p - m % p) % p : Nat) : Int) := rfl
    have e4 : (-(m : Int)) % (p : Int) = (((p - m % p) % p : Nat) : Int) := by
      rw [Int.natCast_emod]
      have hd := Nat.div_add_mod m p
      have : ((p - m % p : Nat) : Int) = -(m : Int) + (p : Int) * (1 + (m / p : Nat)) := by
        have hd' : (m : Int) = (p : Int) * (m / p : Nat) + (m % p : Nat) := by rw [← Int.natCast_mul, ← Int.natCast_add, hd]
        rw [Int.mul_add, Int.mul_one]; omega
      rw [this, Int.add_mul_emod_self_left]
    rw [e3, e4]; rfl
  · obtain ⟨m, rfl⟩ : ∃ m : Nat, x = (m : Int) := ⟨x.toNat, by omega⟩
    have e1 : ((m : Int)).tmod (p : Int) = ((m % p : Nat) : Int) := rfl
    have hm : m % p ≤ m := Nat.mod_le _ _
    have hmp : m % p < p := Nat.mod_lt _ (by omega)
    rw [e1]
    refine ⟨by omega, by omega, ?_⟩
    have e3 : (((m % p : Nat) : Int) + (p : Int)).tmod (p : Int) = (((m % p + p) % p : Nat) : Int) := by rw [← Int.natCast_add]; rfl
    rw [e3, Nat.add_mod_right, Nat.mod_mod]; rfl
theorem nrmR_take {p : Nat} {R : List Int} {j : Nat} (h : j < R.length) : (nrmR p R).take (j + 1) = (nrmR p R).take j ++ [(int_ R j % (p : Int)).toNat] := by
  rw [take_nat (by simpa [nrmR] using h)]
  congr 2
  rw [nat_get (by simpa [nrmR] using h), int_get h]; simp [nrmR]
theorem nrmM_take {p : Nat} {R : List (List Int)} {i : Nat} (h : i < R.length) : (nrmM p R).take (i + 1) = (nrmM p R).take i ++ [nrmR p (rowI R i)] := by
  unfold nrmM
  rw [List.take_succ_eq_append_getElem (by simpa using h)]
  simp [rowI, List.getD_eq_getElem?_getD, List.getElem?_eq_getElem h]
theorem nrmM_lt {p : Nat} (hp : 0 < p) (R : List (List Int)) : LtM p (nrmM p R) := by
  intro i j
  unfold nrmM row_
  rw [List.getD_eq_getElem?_getD, List.getElem?_map]
  cases R[i]? with
  | none => exact hp
  | some r =>
    show nat_ (nrmR p r) j < p
    refine nat_lt_of (fun x hx => ?_) hp j
    unfold nrmR at hx
    obtain ⟨y, _, rfl⟩ := List.mem_map.1 hx
    have h1 := Int.emod_nonneg y (show (p : Int) ≠ 0 by omega)
    have h2 := Int.emod_lt_of_pos y (show (0 : Int) < p by omega)
    omega

theorem gau_mod (p s c o : Nat) (M : List (List Nat)) : gauM p s c o M = gauM p s c (o % p) M := by
  unfold gauM; rw [Nat.mod_mul_mod]

set_option maxHeartbeats 8000000 in
set_option maxRecDepth 100000 in
theorem Rdet_c (p : Nat) (O0 : Option Addr) (s c0 : Nat) (ds0 : List (Option Addr × Nat)) (R : List (List Int)) (w : World) (hR : RdMI w O0 s ds0 R) (hs : s ≤ 16) (hp1 : 1 < p) (hp : p ≤ 2147483647) (hbd : ∀ i j, -1000 ≤ int_ (rowI R i) j ∧ int_ (rowI R i) j ≤ 1000) :
    Calls Try.prog 66 #[.slice O0 s c0, .int .i64 (p : Int)] w fun e w' => e = .returned (.int .i64 ((detI p R : Nat) : Int)) ∧ Below w.heap.size w w' := by
  have HD := Lib.hid (show detI p R = detGo p s ((List.range s).drop 0) (1, nrmM p R) by unfold detI detP; rw [show (nrmM p R).length = s by simp [nrmM, hR.len]]; rfl)
  have HRl := Lib.hid hR.len
  have HBD := Lib.hid hbd
  clear hbd
  go_enter Try.func66, Try.ntmps66
  go_wp2
  go_loopw [6, 5] (fun i r wr => ∃ (k : Nat) (O : Option Addr) (c : Nat) (ds : List (Option Addr × Nat)), k ≤ s ∧ i = .int .i64 ((k : Nat) : Int) ∧ r = .slice O k c ∧ MatA wr w.heap.size O k s c ds ((nrmM p R).take k) ∧ Below w.heap.size w wr) (fun i _ _ => s - (intOf i).toNat)
  case atStart => exact ⟨0, none, 0, [], Nat.zero_le _, rfl, rfl, MatA.nil _ _ _, Below.refl _ _⟩
  case round =>
    obtain ⟨k, O, c, ds, hks, rfl, rfl, hA, hb⟩ := hrel
    by_cases hk : k < s
    · as_aux_lemma =>
        obtain ⟨W0, rfl⟩ : ∃ W0, W0 = wr := ⟨_, rfl⟩
        go_wp2
        have hszr := hb.size
        go_loopw [8, 7] (fun i r wx => ∃ (j : Nat) (A : Option Addr) (ca : Nat), j ≤ s ∧ i = .int .i64 ((j : Nat) : Int) ∧ r = .slice A j ca ∧ OwnN wx W0.heap.size A j ca ((nrmR p (rowI R k)).take j) ∧ Below W0.heap.size W0 wx) (fun i _ _ => s - (intOf i).toNat)
        case atStart => exact ⟨0, none, 0, Nat.zero_le _, rfl, rfl, OwnN.none_ _ _, Below.refl _ _⟩
        case round =>
          obtain ⟨j, A, ca, hjs, rfl, rfl, ho, hbx⟩ := hrel
          have hszx := hbx.size
          have hRx := hR.below (hb.trans (hbx.mono hszr))
          have hrl := (hRx.row k hk).1
          by_cases hj : j < s
          · obtain ⟨b, o, b2, o2, rfl, h1, h2⟩ := hRx.at_ hk hj
            obtain ⟨hx1, hx2⟩ := HBD.out k j
            obtain ⟨v1, e1, hv1, hv2, e2⟩ := nrm_op (int_ (rowI R k) j) p hp1 hp hx1 hx2
            have hpz : ¬ p = 0 := by omega
            have HT := Lib.hid (nrmR_take (p := p) (R := rowI R k) (j := j) (by omega))
            generalize (int_ (rowI R k) j % (p : Int)).toNat = y at *
            generalize int_ (rowI R k) j = x at *
            go_wp2_with ((with_reducible show Go.wpList _ _ _ ({ dst := some 46, op := _, type := _, pos := _, after := _, guard := _ } :: _) _ _); refine wpList_push_n (v := y) ho rfl _ _ rfl rfl rfl (by omega) hszx ?_; intro A' c' w' ho' hb' hg')
            refine ⟨⟨j + 1, A', c', by omega, by go_num, rfl, by rw [HT.out]; exact ho', hbx.trans hb'⟩, by simp [intOf]; omega⟩
          · obtain rfl : s = j := by omega
            rw [List.take_of_length_le (by simp [nrmR]; omega)] at ho
            have hAx := hA.below hbx
            have HT := Lib.hid (nrmM_take (p := p) (R := R) (i := k) (by rw [HRl.out]; exact hk))
            have hOl : ∀ q, blk O = some q → q < W0.heap.size := fun q hq => (own_lt hA.outer q hq).2
            have hdl : ∀ i q, i < k → blk (d_ ds i).1 = some q → q < W0.heap.size := fun i q hi hq => hA.lt hi hq
            have hbxw := hb.trans (hbx.mono hszr)
            have hwx : w.heap.size ≤ wr.heap.size := hbxw.size
            go_wp2_with ((with_reducible show Go.wpList _ _ _ ({ dst := some 50, op := _, type := _, pos := _, after := _, guard := _ } :: _) _ _); refine wpList_push_s hAx.outer rfl _ _ rfl rfl rfl (by omega) hwx ?_; intro O' c' w' ho' hb' hg')
            have hP := MatA.push hAx ho hszr hOl hdl ho' hg'
            refine ⟨⟨k + 1, O', c', _, by omega, by go_num, rfl, by rw [HT.out]; exact hP, hbxw.trans hb'⟩, by simp [intOf]; omega⟩
    · obtain rfl : s = k := by omega
      rw [List.take_of_length_le (by simp [nrmM]; have := HRl.out; omega)] at hA
      have hM := hA.done
      have hlt := nrmM_lt (p := p) (by omega) R
      clear hA
      generalize nrmM p R = M at *
      go_wp2
      go_loopw [10, 9] (fun i o wr => ∃ (c' out : Nat) (ds' : List (Option Addr × Nat)) (M' : List (List Nat)), c' ≤ s ∧ i = .int .i64 ((c' : Nat) : Int) ∧ o = .int .i64 ((out : Nat) : Int) ∧ out < p ∧ Mat wr w.heap.size O s c ds' M' ∧ LtM p M' ∧ detGo p s ((List.range s).drop c') (out, M') = detI p R ∧ Below w.heap.size w wr) (fun i _ _ => s - (intOf i).toNat)
      case atStart => exact ⟨0, 1, ds, M, Nat.zero_le _, rfl, rfl, hp1, hM, hlt, HD.out.symm, hb⟩
      case round =>
        clear hb hM
        obtain ⟨c1, out, ds1, M1, hc, rfl, rfl, hout, hm, hl1, hd, hb⟩ := hrel
        have HG := Lib.hid hd
        clear hd
        by_cases hcs : c1 < s
        · as_aux_lemma =>
            go_wp2
            go_loop [11] (fun r => ∃ q : Nat, c1 ≤ q ∧ q ≤ s ∧ r = .int .i64 ((q : Nat) : Int) ∧ pivGo M1 s c1 (s - q) q = pivR M1 s c1) (fun r => s - (intOf r).toNat)
            case atStart => exact ⟨c1, Nat.le_refl _, hc, rfl, rfl⟩
            case round =>
              obtain ⟨q, hcq, hqs, rfl, hpv⟩ := hrel
              have HPV := Lib.hid hpv
              clear hpv
              by_cases hqs2 : q < s
              · obtain ⟨b, hO, hBb, _, h1⟩ := hm.at_ hqs2
                subst hO
                obtain ⟨g, hA, _, _, h2, _⟩ := hm.put hqs2 hcs 0
                unfold rowV at h1
                rw [hA] at h1
                by_cases hz : nat_ (row_ M1 q) c1 = 0
                · have hdz : (((nat_ (row_ M1 q) c1 : Nat) : Int) == 0) = true := by simp [hz]
                  have HS := Lib.hid (pivGo_step (M := M1) (c := c1) hqs2 hz)
                  clear hz
                  go_wp2
                  exact ⟨⟨q + 1, by omega, by omega, by go_num, by rw [← HS.out]; exact HPV.out⟩, by simp [intOf]; omega⟩
                · have hdz : (((nat_ (row_ M1 q) c1 : Nat) : Int) == 0) = false := by simp; omega
                  have HPR : Hid (pivR M1 s c1 = q) := HPV.out.symm.trans (pivGo_stop (fun h => hz h.2))
                  clear HPV
                  have hdqs : (((q : Nat) : Int) == (s : Int)) = false := by simp; omega
                  have HG1 : Hid (detGo p s (c1 :: (List.range s).drop (c1 + 1)) (out, M1) = detI p R) := by rw [← range_drop_succ hcs]; exact HG.out
                  clear HG
                  by_cases hqc : q = c1
                  · as_aux_lemma =>
                      subst hqc
                      have hdqc : decide (((q : Nat) : Int) < ((q : Nat) : Int)) = false := by simp
                      have HG2 : Hid (detGo p s ((List.range s).drop (q + 1)) (gauM p s q out M1) = detI p R) := by
                        rw [← HG1.out, detGo_some (gauS_here (by rw [HPR.out]; omega) HPR.out)]; exact rfl
                      clear HG1 HPR
                      have hm2 := hm
                      have hl2 := hl1
                      have hbW := hb
                      have hAq := hA
                      clear hm hl1 hb hA
                      obtain ⟨b, hO, _, hbl, hoc⟩ := hm2.at_ hcs
                      injection hO with hO; injection hO with hO; subst hO
                      obtain ⟨gc, hA2, _, _, hcc, _⟩ := hm2.put hcs hcs 0
                      unfold rowV at hoc
                      rw [hA2] at hoc
                      have HAc := Lib.hid hA2
                      try (rw [hA2] at hAq; injection hAq with hAq; injection hAq with hAq; subst hAq)
                      clear hA2
                      have hpl := hl2 q q
                      have hmm := mulmod out (nat_ (row_ M1 q) q) p (by omega) (by omega)
                      have hpw := Rpower_c (nat_ (row_ M1 q) q) (p - 2) p wr (by omega) (by omega) hp1 hp
                      rw [show ((p - 2 : Nat) : Int) = (p : Int) - 2 by omega] at hpw
                      have hinvl : powP (nat_ (row_ M1 q) q) (p - 2) p < p := powP_lt hp1
                      have HGM := Lib.hid (show gauM p s q out M1 = (out * nat_ (row_ M1 q) q % p, elM p (powP (nat_ (row_ M1 q) q) (p - 2) p) s q M1) from rfl)
                      have hol : out * nat_ (row_ M1 q) q % p < p := Nat.mod_lt _ (by omega)
                      generalize out * nat_ (row_ M1 q) q % p = o2 at *
                      generalize powP (nat_ (row_ M1 q) q) (p - 2) p = inv at *
                      generalize hpv : nat_ (row_ M1 q) q = pv at *
                      have HPV := Lib.hid hpv
                      clear hpv
                      go_wp2_with fail
                      refine hpw.mono ?_
                      rintro e w' ⟨rfl, rfl⟩
                      clear hpw hmm hoc hcc
                      try clear ho2
                      have HL1 := Lib.hid hl2
                      clear hl2
                      go_wp2
                      go_loopw [15] (fun i wr => ∃ i0 : Nat, q + 1 ≤ i0 ∧ i0 ≤ s ∧ i = .int .i64 ((i0 : Nat) : Int) ∧ Mat wr w.heap.size (some ⟨b, 0, none⟩) s c ds1 (elP p inv s q (i0 - (q + 1)) M1) ∧ Below w.heap.size w wr) (fun i _ => s - (intOf i).toNat)
                      case atStart => exact ⟨q + 1, Nat.le_refl _, by omega, by go_num, by rw [Nat.sub_self]; exact hm2, hbW⟩
                      case round =>
                        obtain ⟨i0, hci, his, rfl, hmE, hbE⟩ := hrel
                        have HLE := Lib.hid (elP_lt (p := p) (inv := inv) (s := s) (c := q) (by omega) HL1.out (i0 - (q + 1)) (by omega))
                        have HEn := Lib.hid (fun h => elP_next (p := p) (inv := inv) (s := s) (c := q) (i0 := i0) (M := M1) hci h)
                        have HEa := Lib.hid (show i0 = s → elP p inv s q (i0 - (q + 1)) M1 = elM p inv s q M1 by rintro rfl; exact elP_all)
                        by_cases hi : i0 < s
                        · generalize elP p inv s q (i0 - (q + 1)) M1 = E at *
                          obtain ⟨_, e, _, _, hoi⟩ := hmE.at_ hi
                          injection e with e; injection e with e1; subst e1
                          obtain ⟨gi, hAi, _, _, hic, _⟩ := hmE.put hi hcs 0
                          unfold rowV at hoi
                          rw [hAi] at hoi
                          have hrl := HLE.out (i0) q
                          have hmf := mulmod (nat_ (row_ E (i0)) q) inv p (by omega) (by omega)
                          have hfl : nat_ (row_ E (i0)) q * inv % p < p := Nat.mod_lt _ (by omega)
                          have HEl := Lib.hid hmE.len
                          have HI0 := Lib.hid (show elI p inv s q E (i0) = E.set (i0) (elR p (nat_ (row_ E (i0)) q * inv % p) (row_ E q) s q (row_ E (i0))) from rfl)
                          generalize nat_ (row_ E (i0)) q * inv % p = f at *
                          generalize nat_ (row_ E (i0)) q = x0 at *
                          have HAi := Lib.hid hAi
                          clear hAi
                          go_wp2
                          clear hoi hic hmf
                          go_loopw [18] (fun j wr2 => ∃ j0 : Nat, q ≤ j0 ∧ j0 ≤ s ∧ j = .int .i64 ((j0 : Nat) : Int) ∧ Mat wr2 w.heap.size (some ⟨b, 0, none⟩) s c ds1 (E.set (i0) (rwP p f s q (j0 - q) (row_ E q) (row_ E (i0)))) ∧ Below w.heap.size w wr2) (fun j _ => s - (intOf j).toNat)
                          case atStart => exact ⟨q, Nat.le_refl _, by omega, rfl, by
                            have e : E.set (i0) (rwP p f s q (q - q) (row_ E q) (row_ E (i0))) = E := by
                              have hlen := HEl.out
                              rw [Nat.sub_self]
                              show E.set _ (row_ E (i0)) = E
                              rw [row_get (by omega)]; exact List.set_getElem_self (by omega)
                            rw [e]; exact hmE, hbE⟩
                          case round =>
                            obtain ⟨j0, hcj, hjs, rfl, hm3, hb3⟩ := hrel
                            by_cases hj : j0 < s
                            · have HR1 := Lib.hid (rowset_self (x := rwP p f s q (j0 - q) (row_ E q) (row_ E (i0))) (show i0 < E.length by rw [HEl.out]; exact hi))
                              have HR2 := Lib.hid (rowset_ne (x := rwP p f s q (j0 - q) (row_ E q) (row_ E (i0))) (show i0 < E.length by rw [HEl.out]; exact hi) (show i0 ≠ q by omega))
                              have hl3 := rwP_lt (p := p) (f := f) (s := s) (c := q) (q := j0 - q) (top := row_ E q) (by omega) (HLE.out (i0)) (j0)
                              have HN := Lib.hid (rwP_next (p := p) (f := f) (top := row_ E q) (row := row_ E (i0)) hcj hj)
                              have htl := HLE.out q (j0)
                              generalize rwP p f s q (j0 - q) (row_ E q) (row_ E (i0)) = R at *
                              have HNr : Hid (rwP p f s q (j0 + 1 - q) (row_ E q) (row_ E (i0)) = R.set (j0) ((nat_ R (j0) + (p - f) * nat_ (row_ E q) (j0)) % p)) := HN.out
                              have helm := elim_op (nat_ R (j0)) f (nat_ (row_ E q) (j0)) p hl3 hfl htl hp
                              obtain ⟨gi2, hA1, hgB, _, h1c, h1f, h1s, h1g⟩ := hm3.put hi hj ((nat_ R (j0) + (p - f) * nat_ (row_ E q) (j0)) % p)
                              obtain ⟨gc2, hA2, _, _, h2c, _⟩ := hm3.put hcs hj 0
                              rw [HAi.out] at hA1
                              injection hA1 with hA1; injection hA1 with hA1; subst hA1
                              rw [HAc.out] at hA2
                              injection hA2 with hA2; injection hA2 with hA2; subst hA2
                              rw [HR1.out] at h1c
                              rw [HR2.out] at h2c
                              rw [HR1.out, List.set_set] at h1s
                              have HS := Lib.hid h1s
                              have HG1 := Lib.hid h1g
                              clear h1s h1g
                              generalize hV : (nat_ R (j0) + (p - f) * nat_ (row_ E q) (j0)) % p = V at *
                              have HV := Lib.hid hV
                              clear hV
                              generalize nat_ R (j0) = ra at *
                              generalize nat_ (row_ E q) (j0) = ta at *
                              obtain ⟨v1, v2, v3, e1, e2, e3, e4⟩ := helm
                              have hpz : ¬ p = 0 := by omega
                              go_wp2
                              go_still_tail 18, (by kernel_rfl)
                              clear e1 e2 e3 e4
                              go_wp2
                              refine ⟨⟨j0 + 1, by omega, by omega, by go_num, by rw [HNr.out]; exact HS.out.below (below_q _ 1), drewN_below (hb3.trans (below_of_grown HG1.out hb3.size hgB)) 1⟩, by simp [intOf]; omega⟩
                            · have hje : s ≤ j0 := by omega
                              go_wp2
                              refine ⟨⟨i0 + 1, by omega, by omega, by go_num, ?_, hb3⟩, by simp [intOf]; omega⟩
                              obtain rfl : j0 = s := by omega
                              rw [HEn.out (by omega), HI0.out, ← rwP_all]
                              exact hm3
                        · have hie : s ≤ i0 := by omega
                          go_wp2
                          refine ⟨⟨q + 1, o2, ds1, elM p inv s q M1, by omega, by go_num, rfl, hol, ?_, ?_, ?_, hbE⟩, by simp [intOf]; omega⟩
                          · rw [← HEa.out (by omega)]; exact hmE
                          · rw [← HEa.out (by omega)]; exact HLE.out
                          · rw [← HGM.out]; exact HG2.out
                  · as_aux_lemma =>
                      have hdqc : decide (((c1 : Nat) : Int) < ((q : Nat) : Int)) = true := by simp; omega
                      have HG2 : Hid (detGo p s ((List.range s).drop (c1 + 1)) (gauM p s c1 (p - out) (swapM M1 q c1)) = detI p R) := by
                        rw [← HG1.out, detGo_some (gauS_swap HPR.out (by omega) hqc)]; exact rfl
                      have HSW := Lib.hid (hm.swap hqs2 hcs b rfl)
                      have HLS := Lib.hid (hl1.swap q c1)
                      obtain ⟨_, e, _, _, h3⟩ := hm.at_ hcs
                      injection e with e; injection e with e1; subst e1
                      unfold rowV at HSW
                      rw [hA] at HSW
                      unfold rowV at h3
                      have hf1 := hm.fz hcs rfl
                      have hf2 := hm.fz hqs2 rfl
                      have HGW := Lib.hid (gau_mod p s c1 (p - out) (swapM M1 q c1))
                      have hpo : (p - out) % p < p := Nat.mod_lt _ (by omega)
                      have ho2 : (p : Int) - (out : Int) = ((p - out : Nat) : Int) := by omega
                      have ho3 : (((p - out : Nat) : Int)).tmod (p : Int) = (((p - out) % p : Nat) : Int) := rfl
                      have ho4 : (((p - out : Nat) : Int)) % (p : Int) = (((p - out) % p : Nat) : Int) := rfl
                      rw [HGW.out] at HG2
                      generalize hO1 : (p - out) % p = o1 at *
                      generalize p - out = po at *
                      clear HG1 HPR hl1 HGW hO1
                      have hpz : ¬ p = 0 := by omega
                      go_upto_region 25 with (fail)
                      generalize hW : World.setCell _ _ _ = W2
                      have hm2 : Mat W2 w.heap.size (some ⟨b, 0, none⟩) s c ((ds1.set q (d_ ds1 c1)).set c1 (d_ ds1 q)) (swapM M1 q c1) := by rw [← hW]; exact HSW.out.1
                      have hbW : Below w.heap.size w W2 := by rw [← hW]; exact hb.trans (below_of_grown HSW.out.2 hb.size hBb)
                      have hl2 : LtM p (swapM M1 q c1) := HLS.out
                      clear HSW HLS h1 h2 h3 hf1 hf2 hm hW hA ho2 ho3 ho4
                      generalize swapM M1 q c1 = M2 at *
                      generalize (ds1.set q (d_ ds1 c1)).set c1 (d_ ds1 q) = ds2 at *
                      obtain ⟨b, hO, _, hbl, hoc⟩ := hm2.at_ hcs
                      injection hO with hO; injection hO with hO; subst hO
                      obtain ⟨gc, hA2, _, _, hcc, _⟩ := hm2.put hcs hcs 0
                      unfold rowV at hoc
                      rw [hA2] at hoc
                      have HAc := Lib.hid hA2
                      try (rw [hA2] at hAq; injection hAq with hAq; injection hAq with hAq; subst hAq)
                      clear hA2
                      have hpl := hl2 c1 c1
                      have hmm := mulmod o1 (nat_ (row_ M2 c1) c1) p (by omega) (by omega)
                      have hpw := Rpower_c (nat_ (row_ M2 c1) c1) (p - 2) p W2 (by omega) (by omega) hp1 hp
                      rw [show ((p - 2 : Nat) : Int) = (p : Int) - 2 by omega] at hpw
                      have hinvl : powP (nat_ (row_ M2 c1) c1) (p - 2) p < p := powP_lt hp1
                      have HGM := Lib.hid (show gauM p s c1 o1 M2 = (o1 * nat_ (row_ M2 c1) c1 % p, elM p (powP (nat_ (row_ M2 c1) c1) (p - 2) p) s c1 M2) from rfl)
                      have hol : o1 * nat_ (row_ M2 c1) c1 % p < p := Nat.mod_lt _ (by omega)
                      generalize o1 * nat_ (row_ M2 c1) c1 % p = o2 at *
                      generalize powP (nat_ (row_ M2 c1) c1) (p - 2) p = inv at *
                      generalize hpv : nat_ (row_ M2 c1) c1 = pv at *
                      have HPV := Lib.hid hpv
                      clear hpv
                      go_wp2_with fail
                      refine hpw.mono ?_
                      rintro e w' ⟨rfl, rfl⟩
                      clear hpw hmm hoc hcc
                      try clear ho2
                      have HL1 := Lib.hid hl2
                      clear hl2
                      go_wp2
                      go_loopw [15] (fun i wr => ∃ i0 : Nat, c1 + 1 ≤ i0 ∧ i0 ≤ s ∧ i = .int .i64 ((i0 : Nat) : Int) ∧ Mat wr w.heap.size (some ⟨b, 0, none⟩) s c ds2 (elP p inv s c1 (i0 - (c1 + 1)) M2) ∧ Below w.heap.size w wr) (fun i _ => s - (intOf i).toNat)
                      case atStart => exact ⟨c1 + 1, Nat.le_refl _, by omega, by go_num, by rw [Nat.sub_self]; exact hm2, hbW⟩
                      case round =>
                        obtain ⟨i0, hci, his, rfl, hmE, hbE⟩ := hrel
                        have HLE := Lib.hid (elP_lt (p := p) (inv := inv) (s := s) (c := c1) (by omega) HL1.out (i0 - (c1 + 1)) (by omega))
                        have HEn := Lib.hid (fun h => elP_next (p := p) (inv := inv) (s := s) (c := c1) (i0 := i0) (M := M2) hci h)
                        have HEa := Lib.hid (show i0 = s → elP p inv s c1 (i0 - (c1 + 1)) M2 = elM p inv s c1 M2 by rintro rfl; exact elP_all)
                        by_cases hi : i0 < s
                        · generalize elP p inv s c1 (i0 - (c1 + 1)) M2 = E at *
                          obtain ⟨_, e, _, _, hoi⟩ := hmE.at_ hi
                          injection e with e; injection e with e1; subst e1
                          obtain ⟨gi, hAi, _, _, hic, _⟩ := hmE.put hi hcs 0
                          unfold rowV at hoi
                          rw [hAi] at hoi
                          have hrl := HLE.out (i0) c1
                          have hmf := mulmod (nat_ (row_ E (i0)) c1) inv p (by omega) (by omega)
                          have hfl : nat_ (row_ E (i0)) c1 * inv % p < p := Nat.mod_lt _ (by omega)
                          have HEl := Lib.hid hmE.len
                          have HI0 := Lib.hid (show elI p inv s c1 E (i0) = E.set (i0) (elR p (nat_ (row_ E (i0)) c1 * inv % p) (row_ E c1) s c1 (row_ E (i0))) from rfl)
                          generalize nat_ (row_ E (i0)) c1 * inv % p = f at *
                          generalize nat_ (row_ E (i0)) c1 = x0 at *
                          have HAi := Lib.hid hAi
                          clear hAi
                          go_wp2
                          clear hoi hic hmf
                          go_loopw [18] (fun j wr2 => ∃ j0 : Nat, c1 ≤ j0 ∧ j0 ≤ s ∧ j = .int .i64 ((j0 : Nat) : Int) ∧ Mat wr2 w.heap.size (some ⟨b, 0, none⟩) s c ds2 (E.set (i0) (rwP p f s c1 (j0 - c1) (row_ E c1) (row_ E (i0)))) ∧ Below w.heap.size w wr2) (fun j _ => s - (intOf j).toNat)
                          case atStart => exact ⟨c1, Nat.le_refl _, by omega, rfl, by
                            have e : E.set (i0) (rwP p f s c1 (c1 - c1) (row_ E c1) (row_ E (i0))) = E := by
                              have hlen := HEl.out
                              rw [Nat.sub_self]
                              show E.set _ (row_ E (i0)) = E
                              rw [row_get (by omega)]; exact List.set_getElem_self (by omega)
                            rw [e]; exact hmE, hbE⟩
                          case round =>
                            obtain ⟨j0, hcj, hjs, rfl, hm3, hb3⟩ := hrel
                            by_cases hj : j0 < s
                            · have HR1 := Lib.hid (rowset_self (x := rwP p f s c1 (j0 - c1) (row_ E c1) (row_ E (i0))) (show i0 < E.length by rw [HEl.out]; exact hi))
                              have HR2 := Lib.hid (rowset_ne (x := rwP p f s c1 (j0 - c1) (row_ E c1) (row_ E (i0))) (show i0 < E.length by rw [HEl.out]; exact hi) (show i0 ≠ c1 by omega))
                              have hl3 := rwP_lt (p := p) (f := f) (s := s) (c := c1) (q := j0 - c1) (top := row_ E c1) (by omega) (HLE.out (i0)) (j0)
                              have HN := Lib.hid (rwP_next (p := p) (f := f) (top := row_ E c1) (row := row_ E (i0)) hcj hj)
                              have htl := HLE.out c1 (j0)
                              generalize rwP p f s c1 (j0 - c1) (row_ E c1) (row_ E (i0)) = R at *
                              have HNr : Hid (rwP p f s c1 (j0 + 1 - c1) (row_ E c1) (row_ E (i0)) = R.set (j0) ((nat_ R (j0) + (p - f) * nat_ (row_ E c1) (j0)) % p)) := HN.out
                              have helm := elim_op (nat_ R (j0)) f (nat_ (row_ E c1) (j0)) p hl3 hfl htl hp
                              obtain ⟨gi2, hA1, hgB, _, h1c, h1f, h1s, h1g⟩ := hm3.put hi hj ((nat_ R (j0) + (p - f) * nat_ (row_ E c1) (j0)) % p)
                              obtain ⟨gc2, hA2, _, _, h2c, _⟩ := hm3.put hcs hj 0
                              rw [HAi.out] at hA1
                              injection hA1 with hA1; injection hA1 with hA1; subst hA1
                              rw [HAc.out] at hA2
                              injection hA2 with hA2; injection hA2 with hA2; subst hA2
                              rw [HR1.out] at h1c
                              rw [HR2.out] at h2c
                              rw [HR1.out, List.set_set] at h1s
                              have HS := Lib.hid h1s
                              have HG1 := Lib.hid h1g
                              clear h1s h1g
                              generalize hV : (nat_ R (j0) + (p - f) * nat_ (row_ E c1) (j0)) % p = V at *
                              have HV := Lib.hid hV
                              clear hV
                              generalize nat_ R (j0) = ra at *
                              generalize nat_ (row_ E c1) (j0) = ta at *
                              obtain ⟨v1, v2, v3, e1, e2, e3, e4⟩ := helm
                              have hpz : ¬ p = 0 := by omega
                              go_wp2
                              go_still_tail 18, (by kernel_rfl)
                              clear e1 e2 e3 e4
                              go_wp2
                              refine ⟨⟨j0 + 1, by omega, by omega, by go_num, by rw [HNr.out]; exact HS.out.below (below_q _ 1), drewN_below (hb3.trans (below_of_grown HG1.out hb3.size hgB)) 1⟩, by simp [intOf]; omega⟩
                            · have hje : s ≤ j0 := by omega
                              go_wp2
                              refine ⟨⟨i0 + 1, by omega, by omega, by go_num, ?_, hb3⟩, by simp [intOf]; omega⟩
                              obtain rfl : j0 = s := by omega
                              rw [HEn.out (by omega), HI0.out, ← rwP_all]
                              exact hm3
                        · have hie : s ≤ i0 := by omega
                          go_wp2
                          refine ⟨⟨c1 + 1, o2, ds2, elM p inv s c1 M2, by omega, by go_num, rfl, hol, ?_, ?_, ?_, hbE⟩, by simp [intOf]; omega⟩
                          · rw [← HEa.out (by omega)]; exact hmE
                          · rw [← HEa.out (by omega)]; exact HLE.out
                          · rw [← HGM.out]; exact HG2.out
              · obtain rfl : q = s := by omega
                have HPR : Hid (pivR M1 q c1 = q) := HPV.out.symm.trans (pivGo_stop (fun h => hqs2 h.1))
                have HZ : Hid (detI p R = 0) := by
                  rw [← HG.out, range_drop_succ hcs, detGo_none (gauS_none HPR.out)]; exact rfl
                clear HPV HG
                go_wp2
                go_ret
                rw [HZ.out]
                exact ⟨rfl, hb⟩
        · obtain rfl : c1 = s := by omega
          have HZ : Hid (detI p R = out) := by
            rw [← HG.out, List.drop_of_length_le (by simp)]; rfl
          go_wp2
          go_ret
          rw [HZ.out]
          exact ⟨rfl, hb⟩

end Go.Proofs.Ytpfbichomgojoaa
