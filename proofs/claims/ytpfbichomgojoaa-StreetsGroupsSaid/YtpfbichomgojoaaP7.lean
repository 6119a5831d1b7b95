/- Walk: instead. -/
import Derived.Test.YtpfbichomgojoaaP6
namespace Go.Proofs.Ytpfbichomgojoaa
open Go.RowKit

/-- The streets that may stand in for a street of a tree. -/
def insB (n : Nat) (es : List Ed) (tree : List Nat) (out k : Nat) : Bool := !hasN tree k && decide (nat_ (kruG n es (delN tree out)) (ed_ es k).a ≠ nat_ (kruG n es (delN tree out)) (ed_ es k).b)
def insN (n : Nat) (es : List Ed) (tree : List Nat) (out : Nat) : List Nat := (List.range es.length).filter (insB n es tree out)
theorem delN_length_le (xs : List Nat) (k : Nat) : (delN xs k).length ≤ xs.length := List.length_filter_le _ _
theorem delN_mem {xs : List Nat} {k x : Nat} (h : x ∈ delN xs k) : x ∈ xs := (List.mem_filter.1 h).1
theorem Contains_n (A : Option Addr) (n c : Nat) (xs : List Nat) (x : Nat) (w : World) (hx : RdN w A n xs) (hn : n ≤ 100000) :
    Calls Try.prog 73 #[.slice A n c, .int .i64 (x : Int)] w fun e w' => e = .returned (.bool (hasN xs x)) ∧ w = w' := Contains_c A n c (natI xs) x w (RdI.of_n hx) hn
theorem three_cells (w : World) (x y z : Value) (ty : TypeId) : (w.alloc (.cells #[x, y, z] ty)).cell? ⟨w.heap.size, 0, none⟩ = some x ∧
    (w.alloc (.cells #[x, y, z] ty)).cell? ⟨w.heap.size, 1, none⟩ = some y ∧ (w.alloc (.cells #[x, y, z] ty)).cell? ⟨w.heap.size, 2, none⟩ = some z := by
  refine ⟨?_, ?_, ?_⟩ <;> (rw [World.cell?_alloc_at _ _ _ _ rfl]; rfl)
theorem filter_succ_no {p : Nat → Bool} {k : Nat} (h : p k = false) : (List.range (k + 1)).filter p = (List.range k).filter p := by rw [filter_range_succ, h]; simp
theorem filter_succ_yes {p : Nat → Bool} {k : Nat} (h : p k = true) : (List.range (k + 1)).filter p = (List.range k).filter p ++ [k] := by rw [filter_range_succ, h]; simp

set_option maxHeartbeats 4000000 in
set_option maxRecDepth 100000 in
theorem instead_c (n : Nat) (E : Option Addr) (m ce : Nat) (es : List Ed) (A : Option Addr) (l c : Nat) (xs : List Nat) (o : Nat) (w : World) (he : RdE w E m es) (hN : InN n es) (hx : RdN w A l xs) (hl : l ≤ 1000) (hxm : ∀ x ∈ xs, x < m) :
    Calls Try.prog 59 #[netV n E m ce, .slice A l c, .int .i64 (o : Int)] w fun e w' => ∃ A' c', e = .returned (.slice A' (insN n es xs o).length c') ∧ OwnN w' w.heap.size A' (insN n es xs o).length c' (insN n es xs o) ∧ Below w.heap.size w w' := by
  have hjn := fun A2 l2 c2 W (h : RdE W E m es) (h2 : RdN W A2 l2 (delN xs o)) h3 => joined_c n E m ce es A2 l2 c2 (delN xs o) W h hN h2 h3 (fun x hx => hxm x (delN_mem hx))
  unfold netV at *
  have hdl := delN_length_le xs o
  go_enter Try.func59, Try.ntmps59
  have hb0 := below_one' w (.cells #[.int .i64 (n : Int), .slice E m ce] 66)
  obtain ⟨hc0, hc1⟩ := box_cells w n E m ce 66
  have hel := he.len
  have hm : m ≤ 60 := by have := hN.2.1; omega
  have hn16 := hN.1
  have he0 := he.below hb0
  have hx0 := hx.below hb0
  have hxl := hx.1
  have hz0 : (w.alloc (.cells #[.int .i64 (n : Int), .slice E m ce] 66)).heap.size = w.heap.size + 1 := by simp
  go_wp2
  generalize w.alloc (.cells #[.int .i64 (n : Int), .slice E m ce] 66) = w0 at *
  have HJ := Lib.hid hjn
  clear hjn
  go_region_held3 (fun w' => w'.cell? ⟨w.heap.size, 0, none⟩ = some (.int .i64 (n : Int)) ∧ w'.cell? ⟨w.heap.size, 1, none⟩ = some (.slice E m ce)) (go_keep) (first | (go_at_call 72; refine (without_c A l c o xs _ (hx0.below (below_q w0 1)) hl).mono ?_; rintro e w1 ⟨A1, c1, rfl, hr1, hb1⟩; have hb1' := (below_q w0 1).trans hb1; have hc01 := Below.keeps hb1' _ _ hc0; have hc11 := Below.keeps hb1' _ _ hc1) | (go_at_call 57; refine (HJ.out A1 _ c1 _ (he0.below hb1') hr1 (by omega)).mono ?_; rintro e w2 ⟨b2, ups, rfl, hp2, hR2, hb2, hpb2⟩; have hb2' := hb1'.trans (hb2.mono (Below.size hb1')); have hc02 := Below.keeps hb2' _ _ hc0; have hc12 := Below.keeps hb2' _ _ hc1))
  have he2 := he0.below hb2'
  have hx2 := hx0.below hb2'
  have hs2 := hb2'.size
  have hbw2 := hb0.trans (hb2'.mono hb0.size)
  have HP := Lib.hid hp2
  have HR := Lib.hid hR2
  clear hp2 hR2 hb1 hb1' hb2 hb2' hpb2 hr1 hc01 hc11 he hx hx0 he0 HJ
  generalize hg0 : kruG n es (delN xs o) = g at *
  have HG := Lib.hid hg0
  clear hg0
  go_wp2
  go_loopw [23, 9] (fun i s wr => ∃ (k : Nat) (A : Option Addr) (c : Nat), k ≤ m ∧ i = .int .i64 ((k : Nat) : Int) ∧ s = .slice A ((List.range k).filter (insB n es xs o)).length c ∧ OwnN wr w2.heap.size A ((List.range k).filter (insB n es xs o)).length c ((List.range k).filter (insB n es xs o)) ∧ Below w2.heap.size w2 wr) (fun i _ _ => m - (intOf i).toNat)
  case atStart => exact ⟨0, none, 0, Nat.zero_le _, rfl, rfl, OwnN.none_ _ _, Below.refl _ _⟩
  case round =>
    obtain ⟨k, A3, c3, hk, rfl, rfl, ho, hb⟩ := hrel
    by_cases hkm : k < m
    · obtain ⟨b1, o1, rfl, hb1l, ha1, hb1, hw1⟩ := (he2.below hb).at_ hkm
      obtain ⟨hea, heb, _⟩ := hN.2.2 k (by omega)
      obtain ⟨hca, hcb, _⟩ := three_cells wr (.int .i64 (ed_ es k).a) (.int .i64 (ed_ es k).b) (.int .i64 (ew es k)) 42
      have hbA := below_one' wr (.cells #[.int .i64 (ed_ es k).a, .int .i64 (ed_ es k).b, .int .i64 (ew es k)] 42)
      have hfl : ((List.range k).filter (insB n es xs o)).length ≤ 60 := by
        have := List.length_filter_le (insB n es xs o) (List.range k)
        rw [List.length_range] at this; omega
      go_wp2
      have hbW : Below w2.heap.size w2 _ := hb.trans (hbA.mono hb.size)
      have hoW := own_below ho hbA
      generalize hF : (List.range k).filter (insB n es xs o) = F at *
      have HF := Lib.hid hF
      generalize wr.alloc (.cells #[.int .i64 (ed_ es k).a, .int .i64 (ed_ es k).b, .int .i64 (ew es k)] 42) = W at *
      have HC := Lib.hid (fun q => Contains_n A l c xs k (W.drewN q) ((hx2.below hbW).below (below_q _ _)) (by omega))
      have hpW := fun q => ((HP.out.below hbW).below (below_q W q))
      have HA := Lib.hid (fun q => of_c b2 ups (ed_ es k).a (W.drewN q) (hpW q) HR.out.1 (by omega))
      have HB := Lib.hid (fun q => of_c b2 ups (ed_ es k).b (W.drewN q) (hpW q) HR.out.1 (by omega))
      have hra := HR.out.2.2 _ hea
      have hrb := HR.out.2.2 _ heb
      clear hpW hF hb hbA ho
      cases hh : hasN xs k
      · rw [hra] at HA
        rw [hrb] at HB
        by_cases hg : nat_ g (ed_ es k).a = nat_ g (ed_ es k).b
        · have hd : (((nat_ g (ed_ es k).a : Nat) : Int) != (nat_ g (ed_ es k).b : Nat)) = false := by simp [hg]
          have HI := Lib.hid (show insB n es xs o k = false by unfold insB; rw [HG.out, hh]; simp [hg])
          rw [hh] at HC
          clear hh hg hra hrb
          generalize nat_ g (ed_ es k).a = la at *
          generalize nat_ g (ed_ es k).b = lb at *
          generalize (ed_ es k).a = ea at *
          generalize (ed_ es k).b = eb at *
          go_quiet ((first | (go_at_call 73; exact quietL (HC.out _)) | (go_at_call 55; first | with_reducible exact quietL (HA.out _) | with_reducible exact quietL (HB.out _))))
          go_wp2
          have hF := filter_succ_no HI.out
          refine ⟨⟨k + 1, A3, c3, by omega, by go_num, by rw [hF, HF.out], by rw [hF, HF.out]; exact own_below hoW (below_q _ _), drewN_below hbW _⟩, by simp [intOf]; omega⟩
        · have hd : (((nat_ g (ed_ es k).a : Nat) : Int) != (nat_ g (ed_ es k).b : Nat)) = true := by simp; omega
          have HI := Lib.hid (show insB n es xs o k = true by unfold insB; rw [HG.out, hh]; simp [hg])
          rw [hh] at HC
          clear hh hg hra hrb
          generalize nat_ g (ed_ es k).a = la at *
          generalize nat_ g (ed_ es k).b = lb at *
          generalize (ed_ es k).a = ea at *
          generalize (ed_ es k).b = eb at *
          go_quiet ((first | (go_at_call 73; exact quietL (HC.out _)) | (go_at_call 55; first | with_reducible exact quietL (HA.out _) | with_reducible exact quietL (HB.out _))))
          have hF := filter_succ_yes HI.out
          have hoq := own_below hoW (below_q W nq)
          have hbq := drewN_below hbW nq
          generalize W.drewN nq = Wq at *
          have hzq := hbq.size
          go_wp2_with ((with_reducible show Go.wpList _ _ _ ({ dst := some 46, op := _, type := _, pos := _, after := _, guard := _ } :: _) _ _); refine wpList_push_n (v := k) hoq rfl _ _ rfl rfl rfl (by omega) hzq ?_; intro A5 c5 w5 ho5 hb5 hg5)
          refine ⟨⟨k + 1, A5, c5, by omega, by go_num, by rw [hF, HF.out, List.length_append]; rfl, by rw [hF, HF.out, List.length_append]; exact ho5, hbq.trans hb5⟩, by simp [intOf]; omega⟩
      · have HI := Lib.hid (show insB n es xs o k = false by unfold insB; rw [hh]; rfl)
        rw [hh] at HC
        clear hh hra hrb
        go_quiet ((go_at_call 73; exact quietL (HC.out _)))
        go_wp2
        have hF := filter_succ_no HI.out
        refine ⟨⟨k + 1, A3, c3, by omega, by go_num, by rw [hF, HF.out], by rw [hF, HF.out]; exact own_below hoW (below_q _ _), drewN_below hbW _⟩, by simp [intOf]; omega⟩
    · obtain rfl : k = m := by omega
      have hbw := hbw2.trans (hb.mono (by omega))
      have ho' := own_mono ho (show w.heap.size ≤ w2.heap.size by omega)
      have HE := Lib.hid (show insN n es xs o = (List.range k).filter (insB n es xs o) by unfold insN; rw [hel])
      go_wp2
      go_ret
      rw [HE.out]
      exact ⟨A3, c3, rfl, ho', hbw⟩

end Go.Proofs.Ytpfbichomgojoaa
