/- Walks: ordered, tree, joined, weight. -/
import Derived.Test.YtpfbichomgojoaaP4
namespace Go.Proofs.Ytpfbichomgojoaa
open Go.RowKit

def netV (n : Nat) (E : Option Addr) (m c : Nat) : Value := .agg #[.int .i64 (n : Int), .slice E m c]
theorem box_cells (w : World) (n : Nat) (E : Option Addr) (m c : Nat) (ty : TypeId) : (w.alloc (.cells #[.int .i64 (n : Int), .slice E m c] ty)).cell? ⟨w.heap.size, 0, none⟩ = some (.int .i64 (n : Int)) ∧
    (w.alloc (.cells #[.int .i64 (n : Int), .slice E m c] ty)).cell? ⟨w.heap.size, 1, none⟩ = some (.slice E m c) := by
  refine ⟨?_, ?_⟩ <;> (rw [World.cell?_alloc_at _ _ _ _ rfl]; rfl)
theorem RdE.blk_lt {w : World} {A : Option Addr} {m : Nat} {es : List Ed} (h : RdE w A m es) (hm : 0 < m) : ∀ k, blk A = some k → k < w.heap.size := by
  intro k hk
  obtain ⟨b, o, rfl, hb, _⟩ := h.at_ hm
  simp [blk] at hk; omega

set_option maxHeartbeats 1000000 in
theorem ordered_cc (n : Nat) (E : Option Addr) (m ce : Nat) (es : List Ed) (w : World) (he : RdE w E m es) (hm : m ≤ 1000) :
    Calls Try.prog 54 #[netV n E m ce] w fun e w' => ∃ A' c', e = .returned (.slice A' m c') ∧ RdN w' A' m (ordL es) ∧ Below w.heap.size w w' ∧ (∀ k, blk A' = some k → w.heap.size ≤ k) ∧ m ≤ c' := by
  have hmf : ∀ (fn : Fn) (first cap : Array Value) (w : World), (Instr.makeFunc fn first cap).run Try.prog w = .ok (.func fn first cap) w := fun _ _ _ _ => rfl
  have hE := fun h => he.blk_lt h
  unfold netV
  go_enter Try.func54, Try.ntmps54
  have hb0 := below_one' w (.cells #[.int .i64 (n : Int), .slice E m ce] 66)
  obtain ⟨hc0, hc1⟩ := box_cells w n E m ce 66
  have hz0 : (w.alloc (.cells #[.int .i64 (n : Int), .slice E m ce] 66)).heap.size = w.heap.size + 1 := by simp
  have he0 := he.below hb0
  go_wp2
  generalize w.alloc (.cells #[.int .i64 (n : Int), .slice E m ce] 66) = w0 at *
  go_loopw [8, 3] (fun i s wr => ∃ (k : Nat) (A : Option Addr) (c : Nat), k ≤ m ∧ i = .int .i64 ((k : Nat) : Int) ∧ s = .slice A k c ∧ OwnN wr w0.heap.size A k c (List.range k) ∧ Below w0.heap.size w0 wr) (fun i _ _ => m - (intOf i).toNat)
  case atStart => exact ⟨0, none, 0, Nat.zero_le _, rfl, rfl, OwnN.none_ _ _, Below.refl _ _⟩
  case round =>
    obtain ⟨k, A, c, hk, rfl, rfl, ho, hb⟩ := hrel
    have hz := hb.size
    by_cases hlt : k < m
    · go_wp2_with ((with_reducible show Go.wpList _ _ _ ({ dst := some 14, op := _, type := _, pos := _, after := _, guard := _ } :: _) _ _); refine wpList_push_n (v := k) ho rfl _ _ rfl rfl rfl (by omega) hz ?_; intro A' c' w' ho' hb' hg')
      refine ⟨⟨k + 1, A', c', by omega, by go_num, rfl, by rw [List.range_succ]; exact ho', hb.trans hb'⟩, by simp [intOf]; omega⟩
    · obtain rfl : k = m := by omega
      go_wp2_with fail
      refine (sort_ord w.heap.size E k ce es _ A c wr (he0.below hb) ?_ ((hb.cell (by rw [hz0]; exact Nat.lt_succ_self _)).trans hc1) (by omega) ho hm).mono ?_
      · intro h q hq; have := hE h q hq; omega
      rintro e w' ⟨rfl, h1, h2⟩
      go_wp2
      go_ret
      exact ⟨A, c, rfl, h1, hb0.trans ((hb.trans h2).mono hb0.size), fun q hq => by have := (own_lt ho q hq).1; omega, (own_cap ho).1⟩
theorem ordered_c (n : Nat) (E : Option Addr) (m ce : Nat) (es : List Ed) (w : World) (he : RdE w E m es) (hm : m ≤ 1000) :
    Calls Try.prog 54 #[netV n E m ce] w fun e w' => ∃ A' c', e = .returned (.slice A' m c') ∧ RdN w' A' m (ordL es) ∧ Below w.heap.size w w' ∧ ∀ k, blk A' = some k → w.heap.size ≤ k :=
  (ordered_cc n E m ce es w he hm).mono fun _ _ ⟨A', c', h1, h2, h3, h4, _⟩ => ⟨A', c', h1, h2, h3, h4⟩

theorem joinL_same {g : List Nat} {a b : Nat} (h : nat_ g a = nat_ g b) : joinL g a b = g := by
  unfold joinL
  rw [h, Nat.max_self, Nat.min_self]
  have : (fun x => if x = nat_ g b then nat_ g b else x) = id := by funext x; simp only [id]; split <;> simp [*]
  rw [this, List.map_id]
/-- The net's streets have their ends among its vertices. -/
def InN (n : Nat) (es : List Ed) : Prop := n ≤ 16 ∧ es.length ≤ 60 ∧ ∀ k, k < es.length → (ed_ es k).a < n ∧ (ed_ es k).b < n ∧ ew es k ≤ 1000
theorem Net.inN {n : Nat} {es : List Ed} (h : Net n es) : InN n es := ⟨h.n16, h.len, fun k hk => by
  have := h.ends _ (ed_mem hk)
  exact ⟨this.1, this.2.1, this.2.2.2⟩⟩

set_option maxHeartbeats 2000000 in
set_option maxRecDepth 100000 in
theorem joined_c (n : Nat) (E : Option Addr) (m ce : Nat) (es : List Ed) (A : Option Addr) (l c : Nat) (xs : List Nat) (w : World) (he : RdE w E m es) (hN : InN n es) (hx : RdN w A l xs) (hl : l ≤ 1000) (hxm : ∀ x ∈ xs, x < m) :
    Calls Try.prog 57 #[netV n E m ce, .slice A l c] w fun e w' => ∃ b ups, e = .returned (.tuple #[.pointer (some ⟨b, 0, none⟩), .int .i64 (((kruT n es xs).length : Nat) : Int)]) ∧ Pt w' b ups ∧ Rep n ups (kruG n es xs) ∧ Below w.heap.size w w' ∧ w.heap.size ≤ b := by
  unfold netV
  go_enter Try.func57, Try.ntmps57
  have hb0 := below_one' w (.cells #[.int .i64 (n : Int), .slice E m ce] 66)
  obtain ⟨hc0, hc1⟩ := box_cells w n E m ce 66
  have hz0 : (w.alloc (.cells #[.int .i64 (n : Int), .slice E m ce] 66)).heap.size = w.heap.size + 1 := by simp
  have he0 := he.below hb0
  have hx0 := hx.below hb0
  have hel := he.len
  go_wp2_with fail
  refine (apart_c _).mono ?_
  generalize w.alloc (.cells #[.int .i64 (n : Int), .slice E m ce] 66) = w0 at *
  rintro e w1 ⟨rfl, hp1, hb1⟩
  rw [hz0] at hp1
  go_wp2
  go_loopw [13, 7] (fun i s wr => ∃ (k : Nat) (ups : List Nat), k ≤ l ∧ i = .int .i64 ((k : Nat) : Int) ∧ s = .int .i64 (((kruT n es (xs.take k)).length : Nat) : Int) ∧ Pt wr (w.heap.size + 1) ups ∧ Rep n ups (kruG n es (xs.take k)) ∧ Below w0.heap.size w0 wr) (fun i _ _ => l - (intOf i).toNat)
  case atStart => exact ⟨0, List.range 16, Nat.zero_le _, rfl, rfl, hp1, Rep.start hN.1, hb1⟩
  case round =>
    obtain ⟨k, ups, hk, rfl, rfl, hp, hR, hb⟩ := hrel
    by_cases hlt : k < l
    · have hkl : k < xs.length := by rw [hx.1]; exact hlt
      have hxk := hxm _ (nat_mem hkl)
      obtain ⟨hea, heb, _⟩ := hN.2.2 (nat_ xs k) (by omega)
      obtain ⟨b, o, rfl, _, h1⟩ := (hx0.below hb).at_ hlt
      obtain ⟨b2, o2, rfl, _, h2, h3, _⟩ := (he0.below hb).at_ hxk
      have hcw := (hb.cell (by rw [hz0]; exact Nat.lt_succ_self _)).trans hc1
      have HJ := Lib.hid (fun W h => join_c (w.heap.size + 1) ups (ed_ es (nat_ xs k)).a (ed_ es (nat_ xs k)).b W h hR.1 (by have := hN.1; omega) (by have := hN.1; omega))
      go_wp2
      go_still_tail 13, (by kernel_rfl)
      go_wp2_with fail
      refine (HJ.out wr.drew ⟨hp.1, hp.2⟩).mono ?_
      rintro e w2 ⟨rfl, hp2, hg2, hs2⟩
      have hzr : w.heap.size + 1 ≤ wr.heap.size := by have := hb.size; omega
      have hb2 : Below (w.heap.size + 1) wr w2 := Below.trans (b := wr.drew) (below_drewN (Below.refl _ wr) 1) (below_of_grown hg2 hzr (Nat.le_refl _))
      rw [← hz0] at hb2
      have hK := Lib.hid (kruF_succ (n := n) (es := es) hkl)
      have hRj := hR.join hN.1 hea heb
      have hru := hR.2.2 _ hea
      have hrv := hR.2.2 _ heb
      by_cases hg : nat_ (kruG n es (xs.take k)) (ed_ es (nat_ xs k)).a = nat_ (kruG n es (xs.take k)) (ed_ es (nat_ xs k)).b
      · have hd : (rootU ups (ed_ es (nat_ xs k)).a != rootU ups (ed_ es (nat_ xs k)).b) = false := by rw [hru, hrv]; simp [hg]
        have hj := joinL_same hg
        rw [hj] at hRj
        have HR := Lib.hid hRj
        have HG := Lib.hid hg
        clear hRj hg hj hR hru hrv
        generalize (rootU ups (ed_ es (nat_ xs k)).a != rootU ups (ed_ es (nat_ xs k)).b) = r at *
        subst hd
        go_wp2
        refine ⟨⟨k + 1, _, by omega, by go_num, ?_, hp2, ?_, hb.trans hb2⟩, by simp [intOf]; omega⟩
        · unfold kruT; rw [hK.out, kruS_no HG.out]
        · unfold kruG; rw [hK.out, kruS_no HG.out]; exact HR.out
      · have hd : (rootU ups (ed_ es (nat_ xs k)).a != rootU ups (ed_ es (nat_ xs k)).b) = true := by rw [hru, hrv]; simp [hg]
        have HR := Lib.hid hRj
        have HG := Lib.hid hg
        have hkl2 : (kruT n es (xs.take k)).length ≤ 1000 := by
          have h1 := kruT_length_le n es (xs.take k)
          rw [List.length_take] at h1
          exact Nat.le_trans h1 (by omega)
        clear hRj hg hR hru hrv
        generalize (rootU ups (ed_ es (nat_ xs k)).a != rootU ups (ed_ es (nat_ xs k)).b) = r at *
        subst hd
        go_wp2
        refine ⟨⟨k + 1, _, by omega, by go_num, ?_, hp2, ?_, hb.trans hb2⟩, by simp [intOf]; omega⟩
        · unfold kruT; rw [hK.out, kruS_yes HG.out, List.length_append]; rfl
        · unfold kruG; rw [hK.out, kruS_yes HG.out]; exact HR.out
    · obtain rfl : k = l := by omega
      go_wp2
      go_ret2
      rw [List.take_of_length_le (by rw [hx.1]; exact Nat.le_refl _)] at hR ⊢
      exact ⟨_, ups, rfl, hp, hR, hb0.trans (hb.mono hb0.size), by omega⟩


theorem grownBy_drew (w : World) (r : Option Nat) : w.grownBy w.drew r := ⟨rfl, rfl, rfl, Nat.le_refl _, fun _ _ _ => rfl⟩
theorem grownBy_below {w w1 w2 : World} {r : Option Nat} (h : w.grownBy w1 r) (hb : Below w.heap.size w1 w2) : w.grownBy w2 r :=
  ⟨hb.os.trans h.os, hb.tape.trans h.tape, hb.output.trans h.output, Nat.le_trans h.size hb.size, fun k hk hr => (hb.block k hk).trans (h.block k hk hr)⟩
theorem Pt.below' {w w' : World} {b B : Nat} {ups : List Nat} (h : Pt w b ups) (hb : Below B w w') (hB : b < B) : Pt w' b ups := ⟨(hb.block b hB).trans h.1, h.2⟩
set_option maxHeartbeats 2000000 in
set_option maxRecDepth 100000 in
theorem tree_c (n : Nat) (E : Option Addr) (m ce : Nat) (es : List Ed) (w : World) (he : RdE w E m es) (hN : InN n es) :
    Calls Try.prog 40 #[netV n E m ce] w fun e w' => ∃ A' c', e = .returned (.tuple #[.slice A' (kruT n es (ordL es)).length c', .bool (decide ((kruT n es (ordL es)).length + 1 = n))]) ∧
      OwnN w' w.heap.size A' (kruT n es (ordL es)).length c' (kruT n es (ordL es)) ∧ Below w.heap.size w w' := by
  have hE := fun h => he.blk_lt h
  have hord := fun W (h : RdE W E m es) => ordered_c n E m ce es W h (by have := he.len; have := hN.2.1; omega)
  unfold netV at *
  go_enter Try.func40, Try.ntmps40
  have hb0 := below_one' w (.cells #[.int .i64 (n : Int), .slice E m ce] 66)
  obtain ⟨hc0, hc1⟩ := box_cells w n E m ce 66
  have hz0 : (w.alloc (.cells #[.int .i64 (n : Int), .slice E m ce] 66)).heap.size = w.heap.size + 1 := by simp
  have he0 := he.below hb0
  have hel := he.len
  have hm60 := hN.2.1
  go_wp2_with fail
  refine (apart_c _).mono ?_
  generalize w.alloc (.cells #[.int .i64 (n : Int), .slice E m ce] 66) = w0 at *
  rintro e w1 ⟨rfl, hp1, hb1⟩
  rw [hz0] at hp1
  have hc01 := (hb1.cell (by rw [hz0]; exact Nat.lt_succ_self _)).trans hc0
  have hc11 := (hb1.cell (by rw [hz0]; exact Nat.lt_succ_self _)).trans hc1
  have hs1 := hb1.size
  have HO := Lib.hid (hord w1 (he0.below hb1))
  clear hord
  go_wp2_with fail
  refine HO.out.mono ?_
  rintro e w2 ⟨A, c, rfl, hx2, hb2, hA2⟩
  have hp2 := hp1.below hb2
  have hb12 := hb1.trans (hb2.mono hs1)
  have hs12 := hb12.size
  generalize hxs : ordL es = xs at *
  have HXS := Lib.hid hxs
  have hxl : xs.length = m := hx2.1
  clear hxs
  have hxm : ∀ x ∈ xs, x < m := fun x hx => by rw [← HXS.out, ordL_mem] at hx; omega
  go_wp2
  have he2 := (he0.below hb1).below hb2
  have hpl := hp1.lt
  have hc02 := (hb2.cell (show w.heap.size < _ by omega)).trans hc01
  have hc12 := (hb2.cell (show w.heap.size < _ by omega)).trans hc11
  have hs2 := hb2.size
  go_loopw [12, 5] (fun i s wr => ∃ (k : Nat) (ups : List Nat) (A : Option Addr) (c : Nat), k ≤ m ∧ i = .int .i64 ((k : Nat) : Int) ∧ s = .slice A (kruT n es (xs.take k)).length c ∧ OwnN wr w2.heap.size A (kruT n es (xs.take k)).length c (kruT n es (xs.take k)) ∧
    Pt wr (w.heap.size + 1) ups ∧ Rep n ups (kruG n es (xs.take k)) ∧ w2.grownBy wr (some (w.heap.size + 1))) (fun i _ _ => m - (intOf i).toNat)
  case atStart => exact ⟨0, List.range 16, none, 0, Nat.zero_le _, rfl, rfl, OwnN.none_ _ _, hp2, Rep.start hN.1, World.grownBy.refl _ _⟩
  case round =>
    obtain ⟨k, ups, A3, c3, hk, rfl, rfl, ho, hp, hR, hb⟩ := hrel
    have hzr : w2.heap.size ≤ wr.heap.size := hb.size
    have hcr0 := hb.cell hc02 (by simp)
    have hcr1 := hb.cell hc12 (by simp)
    by_cases hlt : k < m
    · have hkl : k < xs.length := by omega
      have hxk := hxm _ (nat_mem hkl)
      obtain ⟨hea, heb, _⟩ := hN.2.2 (nat_ xs k) (by omega)
      have her : RdE wr E m es := ⟨he2.1, he2.2.other hb (by intro h; have := hE (by omega) _ h; omega)⟩
      have hxr : RdN wr A m xs := ⟨hx2.1, hx2.2.other hb (by intro h; have := hA2 _ h; omega)⟩
      obtain ⟨b, o, rfl, _, h1⟩ := hxr.at_ hlt
      obtain ⟨b2, o2, rfl, _, h2, h3, _⟩ := her.at_ hxk
      have HJ := Lib.hid (fun W h => join_c (w.heap.size + 1) ups (ed_ es (nat_ xs k)).a (ed_ es (nat_ xs k)).b W h hR.1 (by have := hN.1; omega) (by have := hN.1; omega))
      go_wp2
      go_still_tail 13, (by kernel_rfl)
      go_wp2_with fail
      refine (HJ.out wr.drew ⟨hp.1, hp.2⟩).mono ?_
      rintro e w4 ⟨rfl, hp4, hg4, hs4⟩
      clear hs4
      have hb4 : w2.grownBy w4 (some (w.heap.size + 1)) := (hb.trans (grownBy_drew wr _)).trans hg4
      have hK := Lib.hid (kruF_succ (n := n) (es := es) hkl)
      have hRj := hR.join hN.1 hea heb
      have hru := hR.2.2 _ hea
      have hrv := hR.2.2 _ heb
      have hz4 := hb4.size
      have hA3 : blk A3 ≠ some (w.heap.size + 1) := fun h => by have := (own_lt ho _ h).1; omega
      have ho4 : OwnN w4 w2.heap.size A3 _ c3 _ := own_other (own_other ho (grownBy_drew wr _) hA3) hg4 hA3
      have hkl2 : (kruT n es (xs.take k)).length ≤ 1000 := by
        have h1 := kruT_length_le n es (xs.take k)
        rw [List.length_take] at h1
        exact Nat.le_trans h1 (by omega)
      by_cases hg : nat_ (kruG n es (xs.take k)) (ed_ es (nat_ xs k)).a = nat_ (kruG n es (xs.take k)) (ed_ es (nat_ xs k)).b
      · have hd : (rootU ups (ed_ es (nat_ xs k)).a != rootU ups (ed_ es (nat_ xs k)).b) = false := by rw [hru, hrv]; simp [hg]
        have hj := joinL_same hg
        rw [hj] at hRj
        have HR := Lib.hid hRj
        have HG := Lib.hid hg
        clear hRj hg hj hR hru hrv
        generalize (rootU ups (ed_ es (nat_ xs k)).a != rootU ups (ed_ es (nat_ xs k)).b) = r at *
        subst hd
        go_wp2
        have hKT : kruT n es (xs.take (k + 1)) = kruT n es (xs.take k) := by unfold kruT; rw [hK.out, kruS_no HG.out]
        refine ⟨⟨k + 1, _, A3, c3, by omega, by go_num, by rw [hKT], by rw [hKT]; exact ho4, hp4, ?_, hb4⟩, by simp [intOf]; omega⟩
        unfold kruG; rw [hK.out, kruS_no HG.out]; exact HR.out
      · have hd : (rootU ups (ed_ es (nat_ xs k)).a != rootU ups (ed_ es (nat_ xs k)).b) = true := by rw [hru, hrv]; simp [hg]
        have HR := Lib.hid hRj
        have HG := Lib.hid hg
        clear hRj hg hR hru hrv
        generalize (rootU ups (ed_ es (nat_ xs k)).a != rootU ups (ed_ es (nat_ xs k)).b) = r at *
        subst hd
        have hKT : Hid (kruT n es (xs.take (k + 1)) = kruT n es (xs.take k) ++ [nat_ xs k]) := Lib.hid (by unfold kruT; rw [hK.out, kruS_yes HG.out])
        go_wp2_with ((with_reducible show Go.wpList _ _ _ ({ dst := some 33, op := _, type := _, pos := _, after := _, guard := _ } :: _) _ _); refine wpList_push_n (v := nat_ xs k) ho4 rfl _ _ rfl rfl rfl (by omega) hz4 ?_; intro A5 c5 w5 ho5 hb5 hg5)
        refine ⟨⟨k + 1, _, A5, c5, by omega, by go_num, by rw [hKT.out, List.length_append]; rfl, by rw [hKT.out, List.length_append]; exact ho5, hp4.below' hb5 (by omega), ?_, grownBy_below hb4 hb5⟩, by simp [intOf]; omega⟩
        unfold kruG; rw [hK.out, kruS_yes HG.out]; exact HR.out
    · obtain rfl : k = m := by omega
      have hbw : Below w.heap.size w wr := (hb0.trans ((hb1.trans (hb2.mono hs1)).mono (by omega))).trans (below_of_grown hb (by omega) (by omega))
      rw [List.take_of_length_le (by omega)] at ho ⊢
      have ho' := own_mono ho (show w.heap.size ≤ w2.heap.size by omega)
      have hw1 : wrap64 ((n : Int) - 1) = (n : Int) - 1 := by have := hN.1; unfold wrap64; omega
      by_cases hd0 : (kruT n es xs).length + 1 = n
      · have hd : ((((kruT n es xs).length : Nat) : Int) == (n : Int) - 1) = true := by simp; omega
        have HD := Lib.hid hd0
        clear hd0
        go_wp2
        go_quiet (fail)
        go_wp2
        go_ret2
        rw [HXS.out]
        exact ⟨A3, c3, rt_two rfl (by rw [decide_eq_true HD.out]; rfl), own_below ho' (below_q _ _), drewN_below hbw _⟩
      · have hd : ((((kruT n es xs).length : Nat) : Int) == (n : Int) - 1) = false := by simp; omega
        have HD := Lib.hid hd0
        clear hd0
        go_wp2
        go_quiet (fail)
        go_wp2
        go_ret2
        rw [HXS.out]
        exact ⟨A3, c3, rt_two rfl (by rw [decide_eq_false HD.out]; rfl), own_below ho' (below_q _ _), drewN_below hbw _⟩


theorem wsum_bd {n : Nat} {es : List Ed} (hN : InN n es) {l : List Nat} (h : ∀ x ∈ l, x < es.length) : wsum es l ≤ l.length * 1000 := by
  unfold wsum
  induction l with
  | nil => simp
  | cons x l ih =>
    have h1 := (hN.2.2 x (h x (List.mem_cons_self ..))).2.2
    have h2 := ih (fun y hy => h y (List.mem_cons_of_mem _ hy))
    simp only [List.map_cons, List.sum_cons, List.length_cons]
    omega

set_option maxHeartbeats 2000000 in
theorem weight_c (n : Nat) (E : Option Addr) (m ce : Nat) (es : List Ed) (A : Option Addr) (l c : Nat) (xs : List Nat) (w : World) (he : RdE w E m es) (hN : InN n es) (hx : RdN w A l xs) (hl : l ≤ 1000) (hxm : ∀ x ∈ xs, x < m) :
    Calls Try.prog 42 #[netV n E m ce, .slice A l c] w fun e w' => e = .returned (.int .i64 ((wsum es xs : Nat) : Int)) ∧ Below w.heap.size w w' := by
  unfold netV
  go_enter Try.func42, Try.ntmps42
  have hb0 := below_one' w (.cells #[.int .i64 (n : Int), .slice E m ce] 66)
  obtain ⟨hc0, hc1⟩ := box_cells w n E m ce 66
  have he0 := he.below hb0
  have hx0 := hx.below hb0
  have hel := he.len
  go_wp2
  generalize w.alloc (.cells #[.int .i64 (n : Int), .slice E m ce] 66) = w0 at *
  go_loop [10, 5] (fun i s => ∃ k : Nat, k ≤ l ∧ i = .int .i64 ((k : Nat) : Int) ∧ s = .int .i64 ((wsum es (xs.take k) : Nat) : Int)) (fun i _ => l - (intOf i).toNat)
  case atStart => exact ⟨0, Nat.zero_le _, rfl, rfl⟩
  case round =>
    obtain ⟨k, hk, rfl, rfl⟩ := hrel
    by_cases hlt : k < l
    · have hkl : k < xs.length := by rw [hx.1]; exact hlt
      have hxk := hxm _ (nat_mem hkl)
      obtain ⟨b, o, rfl, _, h1⟩ := hx0.at_ hlt
      obtain ⟨b2, o2, rfl, _, h2, h3, h4⟩ := he0.at_ hxk
      have hs := Lib.hid (wsum_take (es := es) hkl)
      have hbd1 := wsum_bd hN (l := xs.take k) (fun x hx => by rw [hel]; exact hxm x (List.mem_of_mem_take hx))
      have hbd2 := (hN.2.2 (nat_ xs k) (by omega)).2.2
      rw [List.length_take] at hbd1
      have hbd3 : wsum es (xs.take k) ≤ 1000000 := Nat.le_trans hbd1 (by omega)
      generalize wsum es (xs.take k) = s1 at *
      generalize ew es (nat_ xs k) = s2 at *
      clear hbd1
      go_wp2
      exact ⟨⟨k + 1, by omega, by go_num, by rw [hs.out]; go_num⟩, by simp [intOf]; omega⟩
    · obtain rfl : k = l := by omega
      rw [List.take_of_length_le (by rw [hx.1]; exact Nat.le_refl _)]
      go_wp2
      go_ret
      exact ⟨rfl, hb0⟩

end Go.Proofs.Ytpfbichomgojoaa
