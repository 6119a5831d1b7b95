/- Walks: slices.DeleteFunc with the program's closure, without. -/
import Derived.Test.YtpfbichomgojoaaP2
namespace Go.Proofs.Ytpfbichomgojoaa
open Go.RowKit

theorem clo92_c (kb : Nat) (k x : Int) (w : World) (hk : w.cell? ⟨kb, 0, none⟩ = some (.int .i64 k)) :
    Calls Try.prog 92 #[.int .i64 x, .pointer (some ⟨kb, 0, none⟩)] w fun e w' => e = .returned (.bool (x == k)) ∧ w = w' := by
  go_enter Try.func92, Try.ntmps92
  go_wp2
  go_ret
  exact ⟨rfl, rfl⟩

/-- Where a number stands first, or -1. -/
def IdxS (xs : List Nat) (n k : Nat) (r : Int) : Prop := (r = -1 ∧ ∀ j, j < n → nat_ xs j ≠ k) ∨ ∃ i : Nat, r = i ∧ i < n ∧ nat_ xs i = k ∧ ∀ j, j < i → nat_ xs j ≠ k
set_option maxHeartbeats 1000000 in
theorem IndexFuncN_c (kb k : Nat) (A : Option Addr) (n c : Nat) (xs : List Nat) (w : World) (hx : RdN w A n xs) (hk : w.cell? ⟨kb, 0, none⟩ = some (.int .i64 (k : Int))) (hn : n ≤ 1000) :
    Calls Try.prog 107 #[.slice A n c, .func (.func 92) #[] #[.pointer (some ⟨kb, 0, none⟩)]] w fun e w' => (∃ r : Int, e = .returned (.int .i64 r) ∧ IdxS xs n k r) ∧ w = w' := by
  go_enter Try.func107, Try.ntmps107
  go_wp2
  go_loop [8] (fun i => ∃ q : Nat, q ≤ n ∧ i = .int .i64 q ∧ ∀ j, j < q → nat_ xs j ≠ k) (fun i => n - (intOf i).toNat)
  case atStart => exact ⟨0, Nat.zero_le _, rfl, fun j h => absurd h (Nat.not_lt_zero _)⟩
  case round =>
    obtain ⟨q, hq, rfl, hne⟩ := hrel
    have H := Lib.hid hne
    clear hne
    by_cases hlt : q < n
    · obtain ⟨b, o, rfl, _, h1⟩ := hx.at_ hlt
      have HC := Lib.hid (clo92_c kb k (nat_ xs q) w hk)
      go_wp2_with fail
      refine HC.out.mono ?_
      rintro e w3 ⟨rfl, rfl⟩
      by_cases hqk : nat_ xs q = k
      · have hd : (((nat_ xs q : Nat) : Int) == (k : Int)) = true := by simp [hqk]
        have HQ := Lib.hid hqk
        clear hqk
        go_wp2
        go_ret
        exact ⟨⟨(q : Int), rfl, .inr ⟨q, rfl, hlt, HQ.out, H.out⟩⟩, rfl⟩
      · have hd : (((nat_ xs q : Nat) : Int) == (k : Int)) = false := by simp; omega
        have HQ := Lib.hid hqk
        clear hqk
        go_wp2
        exact ⟨⟨q + 1, by omega, by go_num, fun j hj => by
          rcases Nat.lt_or_ge j q with h | h
          · exact H.out j h
          · obtain rfl : j = q := by omega
            exact HQ.out⟩, by simp [intOf]; omega⟩
    · obtain rfl : q = n := by omega
      go_wp2
      go_ret
      exact ⟨⟨-1, rfl, .inl ⟨rfl, H.out⟩⟩, rfl⟩

def delN (xs : List Nat) (k : Nat) : List Nat := xs.filter (fun x => decide (x ≠ k))
theorem delN_all {xs : List Nat} {k : Nat} (h : ∀ j, j < xs.length → nat_ xs j ≠ k) : delN xs k = xs := by
  unfold delN
  rw [List.filter_eq_self]
  intro x hx
  obtain ⟨i, hi, rfl⟩ := List.mem_iff_getElem.1 hx
  have := h i hi
  rw [nat_get hi] at this
  simpa using this
theorem take_set_succ {ys : List Nat} {i x : Nat} (h : i < ys.length) : (ys.set i x).take (i + 1) = ys.take i ++ [x] := by
  rw [List.take_succ_eq_append_getElem (by simpa using h)]
  simp [List.take_set_of_le]
theorem delN_take_succ {xs : List Nat} {k j : Nat} (h : j < xs.length) : delN (xs.take (j + 1)) k = if nat_ xs j = k then delN (xs.take j) k else delN (xs.take j) k ++ [nat_ xs j] := by
  unfold delN
  rw [take_nat h, List.filter_append]
  split
  · rename_i e; simp [e]
  · rename_i e; simp [e]
theorem grown_setCells (w : World) (b : Nat) : ∀ (vs : List Value) (o : Nat), w.grownBy (w.setCells b o vs) (some b) := by
  intro vs
  induction vs generalizing w with
  | nil => intro o; exact World.grownBy.refl w _
  | cons v vs ih => intro o; exact (grown_set w b o v).trans (ih _ (o + 1))

set_option maxHeartbeats 2000000 in
theorem DeleteFunc_c (kb k B : Nat) (A : Option Addr) (n c : Nat) (xs : List Nat) (w : World) (hx : OwnN w B A n c xs) (hk : w.cell? ⟨kb, 0, none⟩ = some (.int .i64 (k : Int))) (hkB : kb < B) (hn : n ≤ 1000) :
    Calls Try.prog 90 #[.slice A n c, .func (.func 92) #[] #[.pointer (some ⟨kb, 0, none⟩)]] w fun e w' => ∃ A' c', e = .returned (.slice A' (delN xs k).length c') ∧ RdN w' A' (delN xs k).length (delN xs k) ∧ Below B w w' := by
  have hxl := hx.len
  go_enter Try.func90, Try.ntmps90
  go_wp2_with fail
  refine (IndexFuncN_c kb k A n c xs w hx.rd hk hn).mono ?_
  rintro e w1 ⟨⟨r, rfl, hr⟩, rfl⟩
  rcases hr with ⟨rfl, hall⟩ | ⟨i, rfl, hi, hik, hlt⟩
  · have HA := Lib.hid hall
    clear hall
    go_wp2
    go_ret
    rw [delN_all (fun j hj => HA.out j (by rw [← hxl]; exact hj)), hxl]
    exact ⟨A, c, rfl, hx.rd, Below.refl _ _⟩
  · have hir : ((i : Int) == -1) = false := by simp
    have HI := Lib.hid hik
    have HL := Lib.hid hlt
    have hB : ∀ q, blk A = some q → B ≤ q := fun q hq => (own_lt hx q hq).1
    have HB := Lib.hid hB
    have hwB : B ≤ w.heap.size := by
      obtain ⟨g, e, h1, h2, _⟩ := own_at hx (nv_get xs i (by omega))
      omega
    clear hik hlt hB
    have hcap := own_cap hx
    go_wp2
    go_loopw [5, 6] (fun a b wr => ∃ (p j : Nat) (ys : List Nat), a = .int .i64 ((p : Nat) : Int) ∧ b = .int .i64 ((j : Nat) : Int) ∧ p < j ∧ j ≤ n ∧ OwnN wr B A n c ys ∧ ys.take p = delN (xs.take j) k ∧ (∀ q, j ≤ q → q < n → nat_ ys q = nat_ xs q) ∧ Below B w wr) (fun _ b _ => n - (intOf b).toNat)
    case atStart =>
      refine ⟨i, i + 1, xs, rfl, by go_num, by omega, by omega, hx, ?_, fun _ _ _ => rfl, Below.refl _ _⟩
      rw [delN_take_succ (by omega), if_pos HI.out]
      refine (delN_all (fun j hj => ?_)).symm
      rw [List.length_take] at hj
      have := HL.out j (by omega)
      rwa [nat_get (by rw [List.length_take]; omega), List.getElem_take, ← nat_get]
    case round =>
      obtain ⟨p, j, ys, rfl, rfl, hpj, hj, hoy, hyp, hyq, hb⟩ := hrel
      have HY := Lib.hid hyp
      have HQ := Lib.hid hyq
      clear hyp hyq
      have hyl := hoy.len
      by_cases hjn : j < n
      · obtain ⟨g, hA, hg1, hg2, h1, _, _⟩ := own_at hoy (nv_get ys j (by omega))
        obtain ⟨g', hA', _, _, h2, h3, hst⟩ := own_at hoy (nv_get ys p (by omega))
        subst hA
        injection hA' with e; injection e with e; subst e
        have hyx := HQ.out j (Nat.le_refl _) hjn
        have hkr : wr.cell? ⟨kb, 0, none⟩ = some (.int .i64 (k : Int)) := (hb.cell hkB).trans hk
        have HS := Lib.hid (delN_take_succ (k := k) (xs := xs) (j := j) (by omega))
        rw [← hyx] at HS
        generalize hv : nat_ ys j = v at *
        have HC := Lib.hid (clo92_c kb k v wr hkr)
        have HST := Lib.hid (hst (.int .i64 (v : Int)))
        have HV := Lib.hid hv
        have HX := Lib.hid hyx
        clear hst hyx hv
        go_wp2_with fail
        refine HC.out.mono ?_
        rintro e w3 ⟨rfl, rfl⟩
        by_cases hvk : v = k
        · have hd : (((v : Nat) : Int) == (k : Int)) = true := by simp [hvk]
          have HK := Lib.hid hvk
          clear hvk
          go_wp2
          exact ⟨⟨p, j + 1, ys, rfl, by go_num, by omega, by omega, hoy, by rw [HS.out, if_pos HK.out]; exact HY.out, fun q h1 h2 => HQ.out q (by omega) h2, hb⟩, by simp [intOf]; omega⟩
        · have hd : (((v : Nat) : Int) == (k : Int)) = false := by simp; omega
          have HK := Lib.hid hvk
          clear hvk
          go_wp2
          refine ⟨⟨p + 1, j + 1, ys.set p v, by go_num, by go_num, by omega, by omega, ?_, ?_, ?_, hb.trans (below_of_grown HST.out.2 (Nat.le_trans hwB hb.size) hg1)⟩, by simp [intOf]; omega⟩
          · unfold OwnN; rw [← nv_set]; exact HST.out.1
          · rw [take_set_succ (by omega), HS.out, if_neg HK.out, HY.out]
          · intro q h1 h2
            rw [nat_set (by omega), if_neg (by omega)]
            exact HQ.out q (by omega) h2
      · obtain rfl : j = n := by omega
        obtain ⟨g, hA, hg1, hg2, _, _, _⟩ := own_at hoy (nv_get ys p (by omega))
        subst hA
        have hcells : ∀ q, q < j - p → (wr.cell? ⟨g, p + q, none⟩).isSome = true ∧ wr.frozen? ⟨g, p + q, none⟩ = false := by
          intro q hq
          obtain ⟨g', e, _, _, h1, h2, _⟩ := own_at hoy (nv_get ys (p + q) (by omega))
          injection e with e; injection e with e; subst e
          exact ⟨by rw [h1]; rfl, h2⟩
        have hcl := fun ty cc => Lib.run_clear_slice (P := Try.prog) wr 24 3 ty (.int .i64 0) Try.underlying24 (fun w => by kernel_rfl) rfl rfl g p (j - p) cc (by omega) (fun q hq => (hcells q hq).1) (fun q hq => (hcells q hq).2)
        have HY2 : Hid (ys.take p = delN xs k) := by
          have h := HY.out
          rw [List.take_of_length_le (l := xs) (by omega)] at h
          exact h
        have HR : Hid (RdN (wr.setCells g p (List.replicate (j - p) (.int .i64 0))) (some ⟨g, 0, none⟩) p (delN xs k)) := by
          have h := hoy.rd.take (j := p) (by omega)
          rw [HY2.out] at h
          refine ⟨h.1, fun q hq => ?_⟩
          obtain ⟨b, o, e, hc⟩ := h.2 q hq
          injection e with e; injection e with e1 e2; subst e1 e2
          refine ⟨g, 0, rfl, ?_⟩
          rw [← hc]
          rw [nv_length, h.1] at hq
          exact World.cell?_setCells_out g _ p wr _ (fun _ _ => .inl (by simp; omega))
        have HLen : Hid ((delN xs k).length = p) := by
          rw [← HY2.out, List.length_take]; exact (show min p ys.length = p by omega)
        have HG := Lib.hid (grown_setCells wr g (List.replicate (j - p) (.int .i64 0)) p)
        clear hcells
        have hpc : p < c := by omega
        go_wp2
        go_ret
        exact ⟨some ⟨g, 0, none⟩, c, rt_slice HLen.out.symm, by rw [HLen.out]; exact HR.out, hb.trans (below_of_grown HG.out (Nat.le_trans hwB hb.size) hg1)⟩

/-- A list without one of its numbers. -/
theorem without_c (A : Option Addr) (n c k : Nat) (xs : List Nat) (w : World) (hx : RdN w A n xs) (hn : n ≤ 1000) :
    Calls Try.prog 72 #[.slice A n c, .int .i64 (k : Int)] w fun e w' => ∃ A' c', e = .returned (.slice A' (delN xs k).length c') ∧ RdN w' A' (delN xs k).length (delN xs k) ∧ Below w.heap.size w w' := by
  have hmf : ∀ (fn : Fn) (first cap : Array Value) (w : World), (Instr.makeFunc fn first cap).run Try.prog w = .ok (.func fn first cap) w := fun _ _ _ _ => rfl
  have hb0 := below_one' w (.cells #[.int .i64 (k : Int)] 3)
  have hk0 : (w.alloc (.cells #[.int .i64 (k : Int)] 3)).cell? ⟨w.heap.size, 0, none⟩ = some (.int .i64 (k : Int)) := by rw [World.cell?_alloc_at _ _ _ _ rfl]; rfl
  go_enter Try.func72, Try.ntmps72
  go_wp2_with fail
  refine (Clone_c A n c xs _ (hx.below hb0) (by omega)).mono ?_
  rintro e w1 ⟨A1, c1, rfl, ho1, hb1⟩
  have hk1 : w1.cell? ⟨w.heap.size, 0, none⟩ = some (.int .i64 (k : Int)) := (hb1.cell (by simp)).trans hk0
  go_wp2_with fail
  refine (DeleteFunc_c w.heap.size k _ A1 n c1 xs w1 ho1 hk1 (by simp) hn).mono ?_
  rintro e w2 ⟨A2, c2, rfl, h2, hb2⟩
  clear hmf
  go_wp2
  go_ret
  exact ⟨A2, c2, rfl, h2, hb0.trans ((hb1.trans hb2).mono hb0.size)⟩

end Go.Proofs.Ytpfbichomgojoaa
