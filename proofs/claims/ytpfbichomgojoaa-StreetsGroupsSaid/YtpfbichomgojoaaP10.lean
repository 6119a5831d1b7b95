/- Walk: Better. -/
import Derived.Test.YtpfbichomgojoaaP9
namespace Go.Proofs.Ytpfbichomgojoaa
open Go.RowKit

theorem insN_len (n : Nat) (es : List Ed) (t : List Nat) (o : Nat) : (insN n es t o).length ≤ es.length := by
  have := List.length_filter_le (insB n es t o) (List.range es.length)
  rw [List.length_range] at this; exact this
theorem insN_lt {n : Nat} {es : List Ed} {t : List Nat} {o x : Nat} (h : x ∈ insN n es t o) : x < es.length := List.mem_range.1 (List.mem_filter.1 h).1

set_option maxHeartbeats 1000000 in
theorem Better_bad (n : Int) (A : Option Addr) (m c : Nat) (ss : List St) (AT : Option Addr) (l cT : Nat) (w : World) (hs : RdS w A m ss) (hb : netB n ss = false) :
    Calls Try.prog 35 #[.int .i64 n, .slice A m c, .slice AT l cT] w fun e w' => e = .returned (.tuple #[.int .i64 0, .int .i64 0, .int .i64 2]) ∧ Below w.heap.size w w' := by
  have HN := Lib.hid (newNet_c n A m c ss w hs)
  rw [hb] at HN
  go_enter Try.func35, Try.ntmps35
  go_wp2_with fail
  refine HN.out.mono ?_
  rintro e w1 ⟨rfl, hb1⟩
  go_wp2
  go_ret3
  exact ⟨rfl, hb1.trans ((below_one' w1 _).mono hb1.size)⟩

set_option maxHeartbeats 1000000 in
theorem Better_not (n : Nat) (A : Option Addr) (m c : Nat) (es : List Ed) (AT : Option Addr) (l cT : Nat) (xs : List Int) (w : World) (he : RdE w A m es) (hnet : Net n es) (hx : RdI w AT l xs) (hl : l ≤ 1000) (hb : isTreeP n es xs = false) :
    Calls Try.prog 35 #[.int .i64 (n : Int), .slice A m c, .slice AT l cT] w fun e w' => e = .returned (.tuple #[.int .i64 0, .int .i64 0, .int .i64 2]) ∧ Below w.heap.size w w' := by
  have HN := Lib.hid (newNet_c n A m c _ w he)
  rw [net_yes hnet] at HN
  have HT := Lib.hid (fun W h h2 => isTree_c n A m c es AT l cT xs W h hnet.inN h2 hl)
  rw [hb] at HT
  unfold netV at HT
  clear hb
  go_enter Try.func35, Try.ntmps35
  go_wp2_with fail
  refine HN.out.mono ?_
  rintro e w1 ⟨rfl, hb1⟩
  have hbA := below_one' w1 (.cells #[.int .i64 (n : Int), .slice A m c] 66)
  obtain ⟨hc0, hc1⟩ := two_cells w1 (.int .i64 (n : Int)) (.slice A m c) 66
  have hb2 := hb1.trans (hbA.mono hb1.size)
  go_wp2_with fail
  refine (HT.out _ (he.below hb2) (hx.below hb2)).mono ?_
  rintro e w3 ⟨rfl, hb3⟩
  have hbb := hb2.trans (hb3.mono hb2.size)
  go_wp2
  go_ret3
  exact ⟨rfl, hbb⟩

/-- What Better answers of a spanning tree. -/
def BetS (n : Nat) (es : List Ed) (t : List Nat) (a b : Int) : Prop :=
  (a = -1 ∧ b = -1 ∧ ∀ j, j < t.length → ∀ i, i < (insN n es t (nat_ t j)).length → ew es (nat_ t j) ≤ ew es (nat_ (insN n es t (nat_ t j)) i)) ∨
  ∃ o i : Nat, a = o ∧ b = i ∧ o ∈ t ∧ i ∈ insN n es t o ∧ ew es i < ew es o

set_option maxHeartbeats 2000000 in
set_option maxRecDepth 100000 in
theorem Better_c (n : Nat) (A : Option Addr) (m c : Nat) (es : List Ed) (AT : Option Addr) (l cT : Nat) (t : List Nat) (w : World) (he : RdE w A m es) (hnet : Net n es) (hx : RdN w AT l t) (hl : l ≤ 1000) (hlt : ∀ x ∈ t, x < m) (hb : isTreeP n es (natI t) = true) :
    Calls Try.prog 35 #[.int .i64 (n : Int), .slice A m c, .slice AT l cT] w fun e w' => (∃ a b : Int, e = .returned (.tuple #[.int .i64 a, .int .i64 b, .int .i64 0]) ∧ BetS n es t a b) ∧ Below w.heap.size w w' := by
  have hel := he.len
  have hm : m ≤ 60 := by have := hnet.len; omega
  have htl := hx.1
  have HN := Lib.hid (newNet_c n A m c _ w he)
  rw [net_yes hnet] at HN
  have HT := Lib.hid (fun W h h2 => isTree_c n A m c es AT l cT (natI t) W h hnet.inN (RdI.of_n h2) hl)
  rw [hb] at HT
  have HI := Lib.hid (fun o W h h2 => instead_c n A m c es AT l cT t o W h hnet.inN h2 hl hlt)
  unfold netV at HT HI
  clear hb
  go_enter Try.func35, Try.ntmps35
  go_wp2_with fail
  refine HN.out.mono ?_
  rintro e w1 ⟨rfl, hb1⟩
  have hbA := below_one' w1 (.cells #[.int .i64 (n : Int), .slice A m c] 66)
  obtain ⟨hc0, hc1⟩ := two_cells w1 (.int .i64 (n : Int)) (.slice A m c) 66
  have hb2 := hb1.trans (hbA.mono hb1.size)
  have hwz : w1.heap.size < (w1.alloc (.cells #[.int .i64 (n : Int), .slice A m c] 66)).heap.size := by simp
  go_wp2_with fail
  refine (HT.out _ (he.below hb2) (hx.below hb2)).mono ?_
  rintro e w3 ⟨rfl, hb3⟩
  have hbb := hb2.trans (hb3.mono hb2.size)
  have hc03 := (hb3.cell (by exact hwz)).trans hc0
  have hc13 := (hb3.cell (by exact hwz)).trans hc1
  have hwz3 : w1.heap.size < w3.heap.size := Nat.lt_of_lt_of_le hwz hb3.size
  have he3 := he.below hbb
  have hx3 := hx.below hbb
  clear hb3 hb2 hbA hc0 hc1 hwz hx he HN HT
  go_wp2
  go_loopw [31] (fun i wr => ∃ k : Nat, k ≤ l ∧ i = .int .i64 ((k : Nat) : Int) ∧ (∀ j, j < k → ∀ i, i < (insN n es t (nat_ t j)).length → ew es (nat_ t j) ≤ ew es (nat_ (insN n es t (nat_ t j)) i)) ∧ Below w3.heap.size w3 wr) (fun i _ => l - (intOf i).toNat)
  case atStart => exact ⟨0, Nat.zero_le _, rfl, fun j h => absurd h (Nat.not_lt_zero _), Below.refl _ _⟩
  case round =>
    obtain ⟨k, hk, rfl, hall, hb⟩ := hrel
    have HA := Lib.hid hall
    clear hall
    by_cases hkl : k < l
    · have hxk := hlt _ (nat_mem (show k < t.length by omega))
      obtain ⟨bt, ot, rfl, _, h1⟩ := (hx3.below hb).at_ hkl
      have HMt := Lib.hid (nat_mem (show k < t.length by omega))
      have HO := Lib.hid (rfl : nat_ t k = nat_ t k)
      generalize hok : nat_ t k = o at *
      have HOK := Lib.hid hok
      clear hok HO
      have hc04 := (hb.cell (by exact hwz3)).trans hc03
      have hc14 := (hb.cell (by exact hwz3)).trans hc13
      go_wp2_with fail
      refine (HI.out o wr (he3.below hb) (hx3.below hb)).mono ?_
      rintro e w4 ⟨A4, c4, rfl, ho4, hb4⟩
      have hL4 := insN_len n es t o
      have hlt4 : ∀ x ∈ insN n es t o, x < m := fun x hx => by have := insN_lt hx; omega
      have hr4 := ho4.rd
      have hbw4 := hb.trans (hb4.mono hb.size)
      generalize hJ : insN n es t o = J at *
      have HJ := Lib.hid hJ
      clear hJ
      have hJl := hr4.1
      clear h1
      go_wp2
      go_loopw [40] (fun i wr => ∃ j : Nat, j ≤ J.length ∧ i = .int .i64 ((j : Nat) : Int) ∧ (∀ i, i < j → ew es o ≤ ew es (nat_ J i)) ∧ Below w4.heap.size w4 wr) (fun i _ => J.length - (intOf i).toNat)
      case atStart => exact ⟨0, Nat.zero_le _, rfl, fun j h => absurd h (Nat.not_lt_zero _), Below.refl _ _⟩
      case round =>
        obtain ⟨j, hj, rfl, hall, hb5⟩ := hrel
        have HA5 := Lib.hid hall
        clear hall
        have hbw5 := hbw4.trans (hb5.mono hbw4.size)
        by_cases hjl : j < J.length
        · obtain ⟨bj, oj, rfl, _, h5⟩ := (hr4.below hb5).at_ hjl
          have hxj := hlt4 _ (nat_mem hjl)
          have HMj := Lib.hid (nat_mem hjl)
          generalize hij : nat_ J j = i at *
          have HIJ := Lib.hid hij
          clear hij
          obtain ⟨be, oe, rfl, _, _, _, h6⟩ := (he3.below hbw5).at_ hxj
          obtain ⟨_, _, e, _, _, _, h7⟩ := (he3.below hbw5).at_ hxk
          injection e with e; injection e with e1 e2; subst e1 e2
          by_cases hlt7 : ew es i < ew es o
          · have hd : decide ((ew es i : Int) < (ew es o : Int)) = true := by simpa using hlt7
            have HL7 := Lib.hid hlt7
            clear hlt7
            go_wp2
            go_quiet (fail)
            go_wp2
            go_ret3
            exact ⟨⟨o, i, rfl, .inr ⟨o, i, rfl, rfl, HMt.out, by rw [HJ.out]; exact HMj.out, HL7.out⟩⟩, drewN_below (hbb.trans (hbw5.mono hbb.size)) _⟩
          · have hd : decide ((ew es i : Int) < (ew es o : Int)) = false := by simpa using hlt7
            have HL7 := Lib.hid hlt7
            clear hlt7
            go_wp2
            go_quiet (fail)
            go_wp2
            exact ⟨⟨j + 1, by omega, by go_num, fun q hq => by
              rcases Nat.lt_or_ge q j with h | h
              · exact HA5.out q h
              · obtain rfl : q = j := by omega
                have := HL7.out
                rw [HIJ.out]; omega, drewN_below hb5 _⟩, by simp [intOf]; omega⟩
        · obtain rfl : j = J.length := by omega
          go_wp2
          exact ⟨⟨k + 1, by omega, by go_num, fun q hq => by
            rcases Nat.lt_or_ge q k with h | h
            · exact HA.out q h
            · obtain rfl : q = k := by omega
              rw [HOK.out, HJ.out]; exact HA5.out, hbw5⟩, by simp [intOf]; omega⟩
    · obtain rfl : k = l := by omega
      go_wp2
      go_ret3
      exact ⟨⟨-1, -1, rfl, .inl ⟨rfl, rfl, by rw [htl]; exact HA.out⟩⟩, hbb.trans (hb.mono hbb.size)⟩

end Go.Proofs.Ytpfbichomgojoaa
