/- Walks: slack$1, slack. -/
import Derived.Test.YtpfbichomgojoaaP10
import Derived.Test.YtpfbichomgojoaaMb
namespace Go.Proofs.Ytpfbichomgojoaa
open Go.RowKit

/-- A number of a list, lowered. -/
def lowS (D : List Int) (k : Nat) (d : Int) : List Int := D.set k (minB (int_ D k) d)
def slkI (es : List Ed) (k : Nat) (D : List Int) (o : Nat) : List Int := lowS (lowS D k ((ew es o : Int) - (ew es k : Int))) o ((ew es o : Int) - (ew es k : Int))
def slkO (n : Nat) (es : List Ed) (T : List Nat) (D : List Int) (k : Nat) : List Int := (insN n es T k).foldl (slkI es k) D
def slkF (n : Nat) (es : List Ed) (T : List Nat) (l : List Nat) : List Int := l.foldl (slkO n es T) (List.replicate es.length (-1))
def slkP (n : Nat) (es : List Ed) : List Int := slkF n es (treeP n es) (treeP n es)

theorem lowS_len (D : List Int) (k : Nat) (d : Int) : (lowS D k d).length = D.length := by simp [lowS]
theorem set_int_self {D : List Int} {k : Nat} (h : k < D.length) : D.set k (int_ D k) = D := by
  rw [int_get h]; exact List.set_getElem_self h

set_option maxHeartbeats 1000000 in
theorem low_c (cb B : Nat) (A : Option Addr) (m c : Nat) (D : List Int) (k : Nat) (d : Int) (w : World) (ho : OwnI w B A m c D) (hc : w.cell? ⟨cb, 0, none⟩ = some (.slice A m c)) (hk : k < m) :
    Calls Try.prog 64 #[.int .i64 (k : Int), .int .i64 d, .pointer (some ⟨cb, 0, none⟩)] w fun e w' => e = .returned (.tuple #[]) ∧ OwnI w' B A m c (lowS D k d) ∧ w.grownBy w' (blk A) := by
  have hl := ho.len
  obtain ⟨g, hA, hg1, hg2, h1, h2, hst⟩ := own_at ho (iv_get D k (by omega))
  subst hA
  have HST := Lib.hid (hst (.int .i64 d))
  rw [iv_set] at HST
  clear hst
  by_cases hneg : int_ D k < 0
  · have hd : decide (int_ D k < 0) = true := by simpa using hneg
    have HL := Lib.hid (show lowS D k d = D.set k d by unfold lowS minB; rw [if_pos (.inl hneg)])
    go_enter Try.func64, Try.ntmps64
    go_wp2
    refine bodyPost_end (results_none rfl _ _ _) rfl ?_
    exact ⟨rfl, by rw [HL.out]; exact HST.out.1, HST.out.2⟩
  · have hd : decide (int_ D k < 0) = false := by simpa using hneg
    by_cases hlt : d < int_ D k
    · have hd2 : decide (d < int_ D k) = true := by simpa using hlt
      have HL := Lib.hid (show lowS D k d = D.set k d by unfold lowS minB; rw [if_pos (.inr hlt)])
      go_enter Try.func64, Try.ntmps64
      go_wp2
      refine bodyPost_end (results_none rfl _ _ _) rfl ?_
      exact ⟨rfl, by rw [HL.out]; exact HST.out.1, HST.out.2⟩
    · have hd2 : decide (d < int_ D k) = false := by simpa using hlt
      have HL := Lib.hid (show lowS D k d = D by unfold lowS minB; rw [if_neg (by omega), set_int_self (by omega)])
      go_enter Try.func64, Try.ntmps64
      go_wp2
      refine bodyPost_end (results_none rfl _ _ _) rfl ?_
      exact ⟨rfl, by rw [HL.out]; exact ho, World.grownBy.refl _ _⟩


set_option maxHeartbeats 1000000 in
theorem slack_none (n : Nat) (E : Option Addr) (m ce : Nat) (es : List Ed) (w : World) (he : RdE w E m es) (hN : InN n es) (hb : okP n es = false) :
    Calls Try.prog 43 #[netV n E m ce] w fun e w' => e = .returned (.tuple #[.slice none 0 0, .map none, .bool false]) ∧ Below w.heap.size w w' := by
  have HT := Lib.hid (fun W h => tree_c n E m ce es W h hN)
  have HB := Lib.hid hb
  clear hb
  unfold netV at *
  go_enter Try.func43, Try.ntmps43
  have hb0 := below_one' w (.cells #[.int .i64 (n : Int), .slice E m ce] 66)
  obtain ⟨hc0, hc1⟩ := box_cells w n E m ce 66
  have he0 := he.below hb0
  go_wp2_with fail
  refine (HT.out _ he0).mono ?_
  rintro e w3 ⟨A3, c3, rfl, ho3, hb3⟩
  have hbb := hb0.trans (hb3.mono hb0.size)
  have HD : Hid (decide ((kruT n es (ordL es)).length + 1 = n) = false) := HB.out
  generalize decide ((kruT n es (ordL es)).length + 1 = n) = bb at *
  have hbb0 := HD.out
  subst hbb0
  go_wp2
  go_ret3
  exact ⟨rfl, hbb⟩

/-- Two blocks alone have turned. -/
structure But2 (p q : Nat) (w w' : World) : Prop where
  os : w'.os = w.os
  tape : w'.tape = w.tape
  output : w'.output = w.output
  size : w.heap.size ≤ w'.heap.size
  block : ∀ k, k < w.heap.size → k ≠ p → k ≠ q → w'.heap[k]? = w.heap[k]?
theorem But2.trans {p q : Nat} {a b c : World} (h : But2 p q a b) (k : But2 p q b c) : But2 p q a c :=
  ⟨k.os.trans h.os, k.tape.trans h.tape, k.output.trans h.output, Nat.le_trans h.size k.size, fun i hi h1 h2 => (k.block i (Nat.lt_of_lt_of_le hi h.size) h1 h2).trans (h.block i hi h1 h2)⟩
theorem But2.left {p q : Nat} {w w' : World} (h : w.grownBy w' (some p)) : But2 p q w w' := ⟨h.os, h.tape, h.output, h.size, fun k hk h1 _ => h.block k hk (by intro e; injection e with e; omega)⟩
theorem But2.right {p q : Nat} {w w' : World} (h : w.grownBy w' (some q)) : But2 p q w w' := ⟨h.os, h.tape, h.output, h.size, fun k hk _ h1 => h.block k hk (by intro e; injection e with e; omega)⟩
theorem But2.of_below {p q : Nat} {w w' : World} (h : Below w.heap.size w w') : But2 p q w w' := ⟨h.os, h.tape, h.output, h.size, fun k hk _ _ => h.block k hk⟩
theorem But2.below {p q B : Nat} {w w' : World} (h : But2 p q w w') (hp : B ≤ p) (hq : B ≤ q) (hB : B ≤ w.heap.size) : Below B w w' := ⟨h.os, h.tape, h.output, h.size, fun k hk => h.block k (by omega) (by omega) (by omega)⟩
theorem But2.cell {p q : Nat} {w w' : World} {a : Addr} {v : Value} (h : But2 p q w w') (hc : w.cell? a = some v) (h1 : a.block ≠ p) (h2 : a.block ≠ q) : w'.cell? a = some v := by
  have hb := World.block_lt_of_cell? _ _ hc
  rw [← hc]
  unfold World.cell?
  rw [h.block _ hb h1 h2]
theorem But2.cells {p q : Nat} {w w' : World} {A : Option Addr} {vs : List Value} (h : But2 p q w w') (hc : Cells w A vs) (h1 : ∀ k, blk A = some k → k ≠ p ∧ k ≠ q) : Cells w' A vs := by
  intro j hj
  obtain ⟨b, o, rfl, hc2⟩ := hc j hj
  refine ⟨b, o, rfl, ?_⟩
  rw [List.getElem?_eq_getElem hj] at hc2 ⊢
  have := h1 b rfl
  exact h.cell hc2 this.1 this.2

theorem grownBy_drewN (w : World) (n : Nat) (r : Option Nat) : w.grownBy (w.drewN n) r := ⟨rfl, rfl, rfl, Nat.le_refl _, fun _ _ _ => rfl⟩
theorem set_fill {k m : Nat} (h : k < m) : (List.replicate k (-1 : Int) ++ List.replicate (m - k) 0).set k (-1) = List.replicate (k + 1) (-1) ++ List.replicate (m - (k + 1)) 0 := by
  rw [show m - k = (m - (k + 1)) + 1 by omega, List.replicate_succ (n := m - (k + 1)), List.set_append_right _ _ (by simp), List.length_replicate, Nat.sub_self, List.set_cons_zero, List.replicate_succ']
  simp

set_option maxHeartbeats 4000000 in
set_option maxRecDepth 100000 in
theorem slack_c (n : Nat) (E : Option Addr) (m ce : Nat) (es : List Ed) (w : World) (he : RdE w E m es) (hN : InN n es) (hok : okP n es = true) :
    Calls Try.prog 43 #[netV n E m ce] w fun e w' => ∃ A c b, e = .returned (.tuple #[.slice A m c, .map (some b), .bool true]) ∧ OwnI w' w.heap.size A m c (slkP n es) ∧ MapB w' b (treeP n es) ∧ w.heap.size ≤ b ∧ Below w.heap.size w w' := by
  have hmf : ∀ (fn : Fn) (first cap : Array Value) (w : World), (Instr.makeFunc fn first cap).run Try.prog w = .ok (.func fn first cap) w := fun _ _ _ _ => rfl
  have hmm := @run_makeMap Try.prog
  have hel := he.len
  have hm : m ≤ 60 := by have := hN.2.1; omega
  have hTl := treeP_len n es
  have hTm : ∀ x ∈ treeP n es, x < m := fun x hx => by have := treeP_lt x hx; omega
  have HT := Lib.hid (fun W h => tree_c n E m ce es W h hN)
  have HI := Lib.hid (fun o A l c W h h2 h3 => instead_c n E m ce es A l c (treeP n es) o W h hN h2 h3 hTm)
  have HB := Lib.hid hok
  clear hok
  unfold netV at *
  go_enter Try.func43, Try.ntmps43
  have hb0 := below_one' w (.cells #[.int .i64 (n : Int), .slice E m ce] 66)
  obtain ⟨hc0, hc1⟩ := box_cells w n E m ce 66
  have he0 := he.below hb0
  have hz0 : (w.alloc (.cells #[.int .i64 (n : Int), .slice E m ce] 66)).heap.size = w.heap.size + 1 := by simp
  go_wp2_with fail
  refine (HT.out _ he0).mono ?_
  rintro e w3 ⟨A3, c3, rfl, ho3, hb3⟩
  have hbb := hb0.trans (hb3.mono hb0.size)
  have HD : Hid (decide ((kruT n es (ordL es)).length + 1 = n) = true) := HB.out
  generalize decide ((kruT n es (ordL es)).length + 1 = n) = bb at *
  have hbb0 := HD.out
  subst hbb0
  have ho3 : OwnN w3 _ A3 (treeP n es).length c3 (treeP n es) := ho3
  have hLK : (kruT n es (ordL es)).length = (treeP n es).length := rfl
  rw [hLK]
  have HP := Lib.hid (show slkP n es = slkF n es (treeP n es) (treeP n es) from rfl)
  generalize hTE : treeP n es = T at *
  have HTE := Lib.hid hTE
  clear hTE
  have hT3 := ho3.rd
  have hs3 := hb3.size
  have hc03 := (hb3.cell (show w.heap.size < _ by omega)).trans hc0
  have hc13 := (hb3.cell (show w.heap.size < _ by omega)).trans hc1
  have he3 := he0.below hb3
  have hmb := MapB.made w3
  have hbm := below_one' w3 (.map #[] 0)
  have hzm : (w3.alloc (.map #[] 0)).heap.size = w3.heap.size + 1 := by simp
  have hcm0 := Below.keeps hbm _ _ hc03
  have hcm1 := Below.keeps hbm _ _ hc13
  go_wp2_with ((with_reducible show Go.wpList _ _ _ ({ dst := some 27, op := _, type := _, pos := _, after := _, guard := _ } :: _) _ _); refine wpList_mk sl24 rfl rfl _ _ rfl rfl rfl (by omega) (by omega) ?_; intro w4 ho4 hb4)
  have hmb4 := hmb.below hb4 (by omega)
  have hb34 := hbm.trans (hb4.mono (by omega))
  have hT4 := hT3.below hb34
  have he4 := he3.below hb34
  have hc04 := (hb34.cell (show w.heap.size < _ by omega)).trans hc03
  have hc14 := (hb34.cell (show w.heap.size < _ by omega)).trans hc13
  have hs34 := hb34.size
  have hbb4 := hbb.trans (hb34.mono hbb.size)
  have hr0 : iv (List.replicate m 0) = List.replicate m (.int .i64 0) := by simp [iv]
  have ho4 : OwnI w4 (w3.heap.size + 1) (some ⟨(w3.alloc (.map #[] 0)).heap.size, 0, none⟩) m m (List.replicate m 0) := by unfold OwnI; rw [hr0, ← hzm]; exact ho4
  have hzA := (own_lt ho4 (w3.alloc (.map #[] 0)).heap.size rfl).2
  rw [hzm] at hzA
  rw [hzm] at ho4
  have hcc := one_cell w4 (.slice (some ⟨w3.heap.size + 1, 0, none⟩) m m) 24
  have hbc := below_one' w4 (.cells #[.slice (some ⟨w3.heap.size + 1, 0, none⟩) m m] 24)
  have hzc : (w4.alloc (.cells #[.slice (some ⟨w3.heap.size + 1, 0, none⟩) m m] 24)).heap.size = w4.heap.size + 1 := by simp
  go_wp2
  have hmb5 := hmb4.below hbc (by omega)
  have hT5 := hT4.below hbc
  have he5 := he4.below hbc
  have ho5 := own_below ho4 hbc
  have hc05 := Below.keeps hbc _ _ hc04
  have hc15 := Below.keeps hbc _ _ hc14
  have hbb5 := hbb4.trans (hbc.mono hbb4.size)
  generalize w4.alloc (.cells #[.slice (some ⟨w3.heap.size + 1, 0, none⟩) m m] 24) = w5 at *
  have hA3 : ∀ k, blk A3 = some k → k < w3.heap.size := fun k hk => (own_lt ho3 k hk).2
  have hEb := fun h => he.blk_lt h
  have hwb : w.heap.size + 1 ≤ w3.heap.size := by omega
  clear hb34 hbc hmb4 hmb hbm hb3 hb0 hb4
  generalize hbmE : w3.heap.size = bm at *
  generalize hcbE : w4.heap.size = cb at *
  clear hmm hT4 he4 hc04 hc14 hbb4 hr0 ho4 hcm0 hcm1 hT3 he3 hc03 hc13 ho3 he0 hc0 hc1 HT
  go_loopw [30] (fun i wr => ∃ k : Nat, k ≤ m ∧ i = .int .i64 ((k : Nat) : Int) ∧ OwnI wr (bm + 1) (some ⟨bm + 1, 0, none⟩) m m (List.replicate k (-1) ++ List.replicate (m - k) 0) ∧ w5.grownBy wr (some (bm + 1))) (fun i _ => m - (intOf i).toNat)
  case atStart => exact ⟨0, Nat.zero_le _, rfl, ho5, World.grownBy.refl _ _⟩
  case round =>
    obtain ⟨k, hk, rfl, ho, hg⟩ := hrel
    have hccr := hg.cell hcc (show (some cb : Option Nat) ≠ some (bm + 1) by intro h; injection h with h; omega)
    by_cases hkm : k < m
    · obtain ⟨g, hA, _, _, h1, h2, hst⟩ := own_at ho (iv_get _ k (by simp; omega))
      injection hA with hA
      injection hA with hA
      subst hA
      have HST := Lib.hid (hst (.int .i64 (-1)))
      rw [iv_set, set_fill hkm] at HST
      clear hst
      go_wp2
      exact ⟨⟨k + 1, by omega, by go_num, HST.out.1, hg.trans HST.out.2⟩, by simp [intOf]; omega⟩
    · obtain rfl : k = m := by omega
      have ho6 : OwnI wr (bm + 1) (some ⟨bm + 1, 0, none⟩) k k (slkF n es T (T.take 0)) := by
        have : slkF n es T (T.take 0) = List.replicate k (-1) ++ List.replicate (k - k) 0 := by unfold slkF; simp [hel]
        rw [this]; exact ho
      have hf6 : But2 bm (bm + 1) w5 wr := But2.right hg
      have hm6 : MapB wr bm (T.take 0) := hmb5.kept hg (by intro h; injection h with h; omega)
      clear ho hg ho5
      go_wp2
      go_loopw [40] (fun i wr => ∃ j : Nat, j ≤ T.length ∧ i = .int .i64 ((j : Nat) : Int) ∧ OwnI wr (bm + 1) (some ⟨bm + 1, 0, none⟩) k k (slkF n es T (T.take j)) ∧ MapB wr bm (T.take j) ∧ But2 bm (bm + 1) w5 wr) (fun i _ => T.length - (intOf i).toNat)
      case atStart => exact ⟨0, Nat.zero_le _, rfl, ho6, hm6, hf6⟩
      case round =>
        obtain ⟨j, hj, rfl, ho, hmp, hf⟩ := hrel
        by_cases hjl : j < T.length
        · have hxk := hTm _ (nat_mem hjl)
          have hTr : RdN wr A3 T.length T := ⟨rfl, hf.cells hT5.2 (fun q hq => by have := hA3 q hq; omega)⟩
          have hF := Lib.hid (foldl_take_nat (f := slkO n es T) (a := List.replicate es.length (-1)) hjl)
          have hTk := Lib.hid (take_nat hjl)
          obtain ⟨bt, ot, rfl, _, h1⟩ := hTr.at_ hjl
          generalize hx : nat_ T j = x at *
          clear hx
          have hlT : (T.take j).length ≤ 1000000 := by rw [List.length_take]; omega
          have hcb0 := hf.cell hc05 (show w.heap.size ≠ bm by omega) (show w.heap.size ≠ bm + 1 by omega)
          have hcb1 := hf.cell hc15 (show w.heap.size ≠ bm by omega) (show w.heap.size ≠ bm + 1 by omega)
          have hcbr := hf.cell hcc (show cb ≠ bm by omega) (show cb ≠ bm + 1 by omega)
          go_wp2_with (at_mapUpdate; refine wpList_upd_b hmp rfl _ _ _ rfl rfl rfl rfl (by omega) hlT ?_; intro w6 hmp6 hg6; refine stopHere ?_)
          unfold Stopped
          have hf6 := hf.trans (But2.left hg6)
          have hTr6 : RdN w6 (some ⟨bt, ot, none⟩) T.length T := ⟨rfl, hf6.cells hT5.2 (fun q hq => by have := hA3 q hq; omega)⟩
          have her6 : RdE w6 E k es := ⟨he5.1, hf6.cells he5.2 (fun q hq => by have := hEb (by omega) q hq; omega)⟩
          have hcb06 := hf6.cell hc05 (show w.heap.size ≠ bm by omega) (show w.heap.size ≠ bm + 1 by omega)
          have hcb16 := hf6.cell hc15 (show w.heap.size ≠ bm by omega) (show w.heap.size ≠ bm + 1 by omega)
          have ho6 := own_other ho hg6 (show blk (some ⟨bm + 1, 0, none⟩) ≠ some bm by intro h; injection h with h; change bm + 1 = bm at h; omega)
          have hsz6 := hf6.size
          clear ho hmp hg6 hcb0 hcb1 hcbr hf hTr h1
          go_wp2_with fail
          refine (HI.out x _ _ c3 w6 her6 hTr6 (by omega)).mono ?_
          rintro e w7 ⟨A7, c7, rfl, ho7, hb7⟩
          have hL7 := insN_len n es T x
          have hlt7 : ∀ y ∈ insN n es T x, y < k := fun y hy => by have := insN_lt hy; omega
          have hr7 := ho7.rd
          have hA7 : ∀ q, blk A7 = some q → bm + 1 < q := fun q hq => by have := (own_lt ho7 q hq).1; omega
          have HO := Lib.hid (show slkO n es T (slkF n es T (T.take j)) x = (insN n es T x).foldl (slkI es x) (slkF n es T (T.take j)) from rfl)
          generalize insN n es T x = J at *
          have hm7 := hmp6.below hb7 (by omega)
          have ho76 := own_below ho6 hb7
          have hf7 : But2 bm (bm + 1) w5 w7 := hf6.trans (But2.of_below hb7)
          have HT2 : Hid (T.take (j + 1) = T.take j ++ [x]) := hTk
          have HF2 : Hid (slkF n es T (T.take (j + 1)) = slkO n es T (slkF n es T (T.take j)) x) := hF
          have hDl : (slkF n es T (T.take j)).length = k := OwnI.len ho76
          generalize slkF n es T (T.take j) = D0 at *
          clear hcb06 hcb16 ho6 hmp6 hTr6 her6 hF hTk hf6
          go_wp2
          go_loopw [51] (fun i wr => ∃ q : Nat, q ≤ J.length ∧ i = .int .i64 ((q : Nat) : Int) ∧ OwnI wr (bm + 1) (some ⟨bm + 1, 0, none⟩) k k ((J.take q).foldl (slkI es x) D0) ∧ w7.grownBy wr (some (bm + 1))) (fun i _ => J.length - (intOf i).toNat)
          case atStart => exact ⟨0, Nat.zero_le _, rfl, ho76, World.grownBy.refl _ _⟩
          case round =>
            obtain ⟨q, hq, rfl, ho, hg⟩ := hrel
            have hf : But2 bm (bm + 1) w5 wr := hf7.trans (But2.right hg)
            by_cases hql : q < J.length
            · have hyk := hlt7 _ (nat_mem hql)
              have hJr : RdN wr A7 J.length J := ⟨hr7.1, hr7.2.other hg (by intro h; have := hA7 _ h; omega)⟩
              have hF := Lib.hid (foldl_take_nat (f := slkI es x) (a := D0) hql)
              have her : RdE wr E k es := ⟨he5.1, hf.cells he5.2 (fun q hq => by have := hEb (by omega) q hq; omega)⟩
              obtain ⟨bj, oj, rfl, _, h1⟩ := hJr.at_ hql
              generalize hy : nat_ J q = y at *
              clear hy
              obtain ⟨be, oe, rfl, _, _, _, h2⟩ := her.at_ hyk
              obtain ⟨_, _, e, _, _, _, h3⟩ := her.at_ hxk
              injection e with e; injection e with e1 e2; subst e1 e2
              have hwy := (hN.2.2 y (by omega)).2.2
              have hwx := (hN.2.2 x (by omega)).2.2
              have hcb0 := hf.cell hc05 (show w.heap.size ≠ bm by omega) (show w.heap.size ≠ bm + 1 by omega)
              have hcb1 := hf.cell hc15 (show w.heap.size ≠ bm by omega) (show w.heap.size ≠ bm + 1 by omega)
              have hcbr := hf.cell hcc (show cb ≠ bm by omega) (show cb ≠ bm + 1 by omega)
              go_wp2
              go_quiet (fail)
              have hq1 := below_q wr nq
              have ho' := own_below ho hq1
              have hcq := Below.keeps hq1 _ _ hcbr
              go_wp2_with fail
              refine (low_c cb (bm + 1) (some ⟨bm + 1, 0, none⟩) k k _ x ((ew es y : Int) - (ew es x : Int)) (wr.drewN nq) ho' hcq hxk).mono ?_
              rintro e w8 ⟨rfl, ho8, hg8⟩
              have hc8 := hg8.cell hcq (show (some cb : Option Nat) ≠ blk (some ⟨bm + 1, 0, none⟩) by intro h; injection h with h; change cb = bm + 1 at h; omega)
              go_wp2_with fail
              refine (low_c cb (bm + 1) (some ⟨bm + 1, 0, none⟩) k k _ y ((ew es y : Int) - (ew es x : Int)) w8 ho8 hc8 hyk).mono ?_
              rintro e w9 ⟨rfl, ho9, hg9⟩
              have hgg : w7.grownBy w9 (some (bm + 1)) := ((hg.trans (grownBy_drewN wr nq _)).trans hg8).trans hg9
              go_wp2
              exact ⟨⟨q + 1, by omega, by go_num, by rw [hF.out]; exact ho9, hgg⟩, by simp [intOf]; omega⟩
            · obtain rfl : q = J.length := by omega
              have hm9 := hm7.kept hg (by intro h; injection h with h; omega)
              rw [List.take_length, ← HO.out, ← HF2.out] at ho
              go_wp2
              exact ⟨⟨j + 1, by omega, by go_num, ho, by rw [HT2.out]; exact hm9, hf⟩, by simp [intOf]; omega⟩
        · obtain rfl : j = T.length := by omega
          rw [List.take_length] at ho hmp
          have hcbr := hf.cell hcc (show cb ≠ bm by omega) (show cb ≠ bm + 1 by omega)
          have hbe := hbb5.trans (hf.below (B := w.heap.size) (by omega) (by omega) (by omega))
          go_wp2
          go_ret3
          exact ⟨_, _, bm, rfl, by rw [HP.out]; exact own_mono ho (by omega), by rw [HTE.out]; exact hmp, by omega, hbe⟩

end Go.Proofs.Ytpfbichomgojoaa
