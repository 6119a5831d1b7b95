/- Walk: Narrow. -/
import Derived.Test.YtpfbichomgojoaaP13
namespace Go.Proofs.Ytpfbichomgojoaa
open Go.RowKit

def narGo (es : List Ed) (u v : Nat) : List Nat → List Nat → Nat → Option Nat
  | [], g, wt => if nat_ g u = nat_ g v then some wt else none
  | k :: l, g, wt => if nat_ g u = nat_ g v then some wt else narGo es u v l (joinL g (ed_ es k).a (ed_ es k).b) (ew es k)
def narP (n : Nat) (es : List Ed) (u v : Nat) : Option Nat := narGo es u v (ordL es) (List.range n) 0

set_option maxHeartbeats 1000000 in
theorem Narrow_bad (n : Int) (A : Option Addr) (m c : Nat) (ss : List St) (u v : Int) (w : World) (hs : RdS w A m ss) (hb : netB n ss = false) :
    Calls Try.prog 27 #[.int .i64 n, .slice A m c, .int .i64 u, .int .i64 v] w fun e w' => e = .returned (.tuple #[.int .i64 0, .int .i64 2]) ∧ Below w.heap.size w w' := by
  have HN := Lib.hid (newNet_c n A m c ss w hs)
  rw [hb] at HN
  go_enter Try.func27, Try.ntmps27
  go_wp2_with fail
  refine HN.out.mono ?_
  rintro e w1 ⟨rfl, hb1⟩
  go_wp2
  go_ret2
  exact ⟨rfl, hb1.trans ((below_one' w1 _).mono hb1.size)⟩

set_option maxHeartbeats 1000000 in
theorem Narrow_out (n : Nat) (A : Option Addr) (m c : Nat) (es : List Ed) (u v : Int) (w : World) (he : RdE w A m es) (hnet : Net n es) (hb : (inR u 0 ((n : Int) - 1) && inR v 0 ((n : Int) - 1)) = false) :
    Calls Try.prog 27 #[.int .i64 (n : Int), .slice A m c, .int .i64 u, .int .i64 v] w fun e w' => e = .returned (.tuple #[.int .i64 0, .int .i64 2]) ∧ Below w.heap.size w w' := by
  have HN := Lib.hid (newNet_c n A m c _ w he)
  rw [net_yes hnet] at HN
  have hn16 := hnet.n16
  have hw1 : wrap64 ((n : Int) - 1) = (n : Int) - 1 := by unfold wrap64; omega
  go_enter Try.func27, Try.ntmps27
  go_wp2_with fail
  refine HN.out.mono ?_
  rintro e w1 ⟨rfl, hb1⟩
  have hbA := below_one' w1 (.cells #[.int .i64 (n : Int), .slice A m c] 66)
  obtain ⟨hc0, hc1⟩ := two_cells w1 (.int .i64 (n : Int)) (.slice A m c) 66
  have hb2 := hb1.trans (hbA.mono hb1.size)
  have hz1 : (w1.alloc (.cells #[.int .i64 (n : Int), .slice A m c] 66)).heap.size = w1.heap.size + 1 := by simp
  go_wp2_with fail
  refine (within_c _ _ _ _).mono ?_
  rintro e w3 ⟨rfl, rfl⟩
  cases hu : inR u 0 ((n : Int) - 1)
  · clear hu hb
    go_wp2
    go_ret2
    exact ⟨rfl, hb2⟩
  · rw [hu, Bool.true_and] at hb
    clear hu
    go_wp2_with fail
    refine (within_c _ _ _ _).mono ?_
    rintro e w3 ⟨rfl, rfl⟩
    rw [hb]
    clear hb
    go_wp2
    go_ret2
    exact ⟨rfl, hb2⟩

def narV : Option Nat → Value
  | none => .tuple #[.int .i64 0, .int .i64 6]
  | some x => .tuple #[.int .i64 (x : Int), .int .i64 0]
set_option maxHeartbeats 2000000 in
set_option maxRecDepth 100000 in
theorem Narrow_c (n : Nat) (A : Option Addr) (m c : Nat) (es : List Ed) (u v : Nat) (w : World) (he : RdE w A m es) (hnet : Net n es) (hu : u < n) (hv : v < n) :
    Calls Try.prog 27 #[.int .i64 (n : Int), .slice A m c, .int .i64 (u : Int), .int .i64 (v : Int)] w fun e w' => e = .returned (narV (narP n es u v)) ∧ Below w.heap.size w w' := by
  have hel := he.len
  have hm : m ≤ 60 := by have := hnet.len; omega
  have hN := hnet.inN
  have HO := Lib.hid (fun W h => ordered_c n A m c es W h (by omega))
  have HP := Lib.hid (show narP n es u v = narGo es u v (ordL es) (List.range n) 0 from rfl)
  unfold netV at HO
  have HN := Lib.hid (newNet_c n A m c _ w he)
  rw [net_yes hnet] at HN
  have hn16 := hnet.n16
  have hw1 : wrap64 ((n : Int) - 1) = (n : Int) - 1 := by unfold wrap64; omega
  go_enter Try.func27, Try.ntmps27
  go_wp2_with fail
  refine HN.out.mono ?_
  rintro e w1 ⟨rfl, hb1⟩
  have hbA := below_one' w1 (.cells #[.int .i64 (n : Int), .slice A m c] 66)
  obtain ⟨hc0, hc1⟩ := two_cells w1 (.int .i64 (n : Int)) (.slice A m c) 66
  have hb2 := hb1.trans (hbA.mono hb1.size)
  have hz1 : (w1.alloc (.cells #[.int .i64 (n : Int), .slice A m c] 66)).heap.size = w1.heap.size + 1 := by simp
  go_wp2_with fail
  refine (within_c _ _ _ _).mono ?_
  rintro e w3 ⟨rfl, rfl⟩
  have hur : inR (u : Int) 0 ((n : Int) - 1) = true := by rw [inR_iff]; omega
  have hvr : inR (v : Int) 0 ((n : Int) - 1) = true := by rw [inR_iff]; omega
  rw [hur]
  go_wp2_with fail
  refine (within_c _ _ _ _).mono ?_
  rintro e w3 ⟨rfl, rfl⟩
  rw [hvr]
  clear hur hvr
  have he2 := he.below hb2
  go_wp2_with fail
  refine (apart_c _).mono ?_
  generalize w1.alloc (.cells #[.int .i64 (n : Int), .slice A m c] 66) = w2 at *
  rintro e w3 ⟨rfl, hp3, hb3⟩
  rw [hz1] at hp3
  have hc03 := (hb3.cell (show w1.heap.size < _ by omega)).trans hc0
  have hc13 := (hb3.cell (show w1.heap.size < _ by omega)).trans hc1
  have hs3 := hb3.size
  have hb23 := hb2.trans (hb3.mono hb2.size)
  go_wp2_with fail
  refine (HO.out w3 (he2.below hb3)).mono ?_
  rintro e w4 ⟨A4, c4, rfl, hx4, hb4, hA4⟩
  have hp4 := hp3.below hb4
  have hpl := hp3.lt
  have hb24 := hb23.trans (hb4.mono hb23.size)
  have he4 := he.below hb24
  have hEb := fun h => he.blk_lt h
  have hs4 := hb4.size
  have hw1l : w.heap.size ≤ w1.heap.size := hb1.size
  have hxm : ∀ x ∈ ordL es, x < m := fun x hx => by rw [ordL_mem] at hx; omega
  clear hb4 hb3 hbA hb2 hc0 hc1 hc03 hc13 HO HN he2 hp3
  generalize ordL es = xs at *
  have hxl := hx4.1
  go_wp2
  go_loopw [42, 13] (fun i s wr => ∃ (k wt : Nat) (ups g : List Nat), k ≤ m ∧ i = .int .i64 ((k : Nat) : Int) ∧ s = .int .i64 ((wt : Nat) : Int) ∧ Pt wr (w1.heap.size + 1) ups ∧ Rep n ups g ∧ narGo es u v (xs.drop k) g wt = narP n es u v ∧ w4.grownBy wr (some (w1.heap.size + 1))) (fun i _ _ => m - (intOf i).toNat)
  case atStart => exact ⟨0, 0, List.range 16, List.range n, Nat.zero_le _, rfl, rfl, hp4, Rep.start hN.1, HP.out.symm, World.grownBy.refl _ _⟩
  case round =>
    obtain ⟨k, wt, ups, g, hk, rfl, rfl, hp, hR, hgo, hg⟩ := hrel
    have HG := Lib.hid hgo
    clear hgo
    have hru := hR.2.2 u hu
    have hrv := hR.2.2 v hv
    have hof1 := of_c (w1.heap.size + 1) ups u wr hp hR.1 (by omega)
    have hof2 := of_c (w1.heap.size + 1) ups v wr hp hR.1 (by omega)
    rw [hru] at hof1
    rw [hrv] at hof2
    have H1 := Lib.hid hof1
    have H2 := Lib.hid hof2
    clear hof1 hof2
    have hbe : Below w.heap.size w wr := hb24.trans (below_of_grown hg hb24.size (by omega))
    by_cases hkm : k < m
    · have hkl : k < xs.length := by omega
      have hxk := hxm _ (nat_mem hkl)
      have hxr : RdN wr A4 m xs := ⟨hx4.1, hx4.2.other hg (by intro h; have := hA4 _ h; omega)⟩
      have her : RdE wr A m es := ⟨he4.1, he4.2.other hg (by intro h; have := hEb (by omega) _ h; omega)⟩
      obtain ⟨b1, o1, rfl, _, h1⟩ := hxr.at_ hkm
      obtain ⟨hea, heb, hew⟩ := hN.2.2 (nat_ xs k) (by omega)
      have hdr := drop_nat hkl
      have HG2 := HG.out
      rw [hdr] at HG2
      clear hdr
      generalize nat_ xs k = x at *
      by_cases hgg : nat_ g u = nat_ g v
      · have HR : Hid (narP n es u v = some wt) := by
          have h := HG2
          unfold narGo at h
          rw [if_pos hgg] at h
          exact h.symm
        have hd : (((nat_ g u : Nat) : Int) == ((nat_ g v : Nat) : Int)) = true := by simp [hgg]
        have hd2 : (((nat_ g u : Nat) : Int) != ((nat_ g v : Nat) : Int)) = false := by simp [hgg]
        clear hgg HG2 HG hru hrv
        generalize nat_ g u = gu at *
        generalize nat_ g v = gv at *
        go_wp2_with fail
        refine H1.out.mono ?_
        rintro e w5 ⟨rfl, rfl⟩
        go_wp2_with fail
        refine H2.out.mono ?_
        rintro e w5 ⟨rfl, rfl⟩
        go_wp2_with fail
        refine H1.out.mono ?_
        rintro e w5 ⟨rfl, rfl⟩
        go_wp2_with fail
        refine H2.out.mono ?_
        rintro e w5 ⟨rfl, rfl⟩
        go_wp2
        go_ret2
        rw [HR.out]
        exact ⟨rfl, hbe⟩
      · have HR : Hid (narGo es u v (xs.drop (k + 1)) (joinL g (ed_ es x).a (ed_ es x).b) (ew es x) = narP n es u v) := by
          have h := HG2
          unfold narGo at h
          rw [if_neg hgg] at h
          exact h
        have hd : (((nat_ g u : Nat) : Int) == ((nat_ g v : Nat) : Int)) = false := by simp; omega
        have herf : ∀ W, w4.grownBy W (some (w1.heap.size + 1)) → RdE W A m es := fun W hW => ⟨he4.1, he4.2.other hW (by intro h; have := hEb (by omega) _ h; omega)⟩
        obtain ⟨b2, o2, rfl, _, h2, h3, h4⟩ := her.at_ hxk
        have HJ := Lib.hid (fun W h => join_c (w1.heap.size + 1) ups (ed_ es x).a (ed_ es x).b W h hR.1 (by omega) (by omega))
        have HRj := Lib.hid (hR.join hN.1 hea heb)
        clear hgg HG2 HG hru hrv
        generalize nat_ g u = gu at *
        generalize nat_ g v = gv at *
        go_wp2_with fail
        refine H1.out.mono ?_
        rintro e w5 ⟨rfl, rfl⟩
        go_wp2_with fail
        refine H2.out.mono ?_
        rintro e w5 ⟨rfl, rfl⟩
        go_wp2
        go_still_tail 11, (by kernel_rfl)
        go_wp2_with fail
        refine (HJ.out wr.drew ⟨hp.1, hp.2⟩).mono ?_
        rintro e w6 ⟨rfl, hp6, hg6, hs6⟩
        clear hs6
        have hb6 : w4.grownBy w6 (some (w1.heap.size + 1)) := (hg.trans (grownBy_drew wr _)).trans hg6
        obtain ⟨_, _, e, _, _, _, h6⟩ := (herf w6 hb6).at_ hxk
        injection e with e; injection e with e1 e2; subst e1 e2
        clear herf her h2 h3 h4
        go_wp2
        exact ⟨⟨k + 1, _, _, _, by omega, by go_num, rfl, hp6, HRj.out, HR.out, hb6⟩, by simp [intOf]; omega⟩
    · obtain rfl : k = m := by omega
      have HG2 := HG.out
      rw [List.drop_of_length_le (by omega)] at HG2
      unfold narGo at HG2
      by_cases hgg : nat_ g u = nat_ g v
      · have HR : Hid (narP n es u v = some wt) := by rw [if_pos hgg] at HG2; exact HG2.symm
        have hd2 : (((nat_ g u : Nat) : Int) != ((nat_ g v : Nat) : Int)) = false := by simp [hgg]
        clear hgg HG2 HG hru hrv
        generalize nat_ g u = gu at *
        generalize nat_ g v = gv at *
        go_wp2_with fail
        refine H1.out.mono ?_
        rintro e w5 ⟨rfl, rfl⟩
        go_wp2_with fail
        refine H2.out.mono ?_
        rintro e w5 ⟨rfl, rfl⟩
        go_wp2
        go_ret2
        rw [HR.out]
        exact ⟨rfl, hbe⟩
      · have HR : Hid (narP n es u v = none) := by rw [if_neg hgg] at HG2; exact HG2.symm
        have hd2 : (((nat_ g u : Nat) : Int) != ((nat_ g v : Nat) : Int)) = true := by simp; omega
        clear hgg HG2 HG hru hrv
        generalize nat_ g u = gu at *
        generalize nat_ g v = gv at *
        go_wp2_with fail
        refine H1.out.mono ?_
        rintro e w5 ⟨rfl, rfl⟩
        go_wp2_with fail
        refine H2.out.mono ?_
        rintro e w5 ⟨rfl, rfl⟩
        go_wp2
        go_ret2
        rw [HR.out]
        exact ⟨rfl, hbe⟩

end Go.Proofs.Ytpfbichomgojoaa
