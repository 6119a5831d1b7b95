/- Walks: isTree, instead, newNet, Tree. -/
import Derived.Test.YtpfbichomgojoaaP5
namespace Go.Proofs.Ytpfbichomgojoaa
open Go.RowKit

/-- The program's test of a list of numbers. -/
def isTreeP (n : Nat) (es : List Ed) (xs : List Int) : Bool := ascI es.length xs && decide (xs.length + 1 = n) && decide ((kruT n es (xs.map Int.toNat)).length + 1 = n)


set_option maxHeartbeats 2000000 in
theorem isTree_c (n : Nat) (E : Option Addr) (m ce : Nat) (es : List Ed) (A : Option Addr) (l c : Nat) (xs : List Int) (w : World) (he : RdE w E m es) (hN : InN n es) (hx : RdI w A l xs) (hl : l ≤ 1000) :
    Calls Try.prog 58 #[netV n E m ce, .slice A l c] w fun e w' => e = .returned (.bool (isTreeP n es xs)) ∧ Below w.heap.size w w' := by
  have hjn := fun ys W (h : RdE W E m es) (h2 : RdN W A l ys) h3 => joined_c n E m ce es A l c ys W h hN h2 hl h3
  unfold netV at *
  go_enter Try.func58, Try.ntmps58
  have hb := below_one' w (.cells #[.int .i64 (n : Int), .slice E m ce] 66)
  obtain ⟨hc0, hc1⟩ := box_cells w n E m ce 66
  have hel := he.len
  have hm : m ≤ 60 := by have := hN.2.1; omega
  have hn16 := hN.1
  have he0 := he.below hb
  have hx0 := hx.below hb
  have hxl := hx.1
  go_wp2
  generalize w.alloc (.cells #[.int .i64 (n : Int), .slice E m ce] 66) = w0 at *
  go_loop [11] (fun i => ∃ k : Nat, k ≤ l ∧ i = .int .i64 ((k : Nat) : Int) ∧ (∀ i, i < k → okAt m xs i = true)) (fun i => l - (intOf i).toNat)
  case atStart => exact ⟨0, Nat.zero_le _, rfl, fun i h => absurd h (Nat.not_lt_zero _)⟩
  case round =>
    obtain ⟨k, hk, rfl, hall⟩ := hrel
    have HA := Lib.hid hall
    clear hall
    by_cases hkm : k < l
    · have hkl : k < xs.length := by omega
      obtain ⟨b1, o1, rfl, _, h1⟩ := hx0.at_ hkm
      have hw1 : wrap64 ((m : Int) - 1) = (m : Int) - 1 := by unfold wrap64; omega
      go_wp2_with fail
      refine (within_c _ _ _ _).mono ?_
      rintro e w3 ⟨rfl, rfl⟩
      by_cases hin : inR (int_ xs k) 0 ((m : Int) - 1) = true
      · have hin' := hin
        unfold inR at hin'
        rw [Bool.and_eq_true, decide_eq_true_iff, decide_eq_true_iff] at hin'
        by_cases hk0 : k = 0
        · have HK : okAt m xs k = true := by unfold okAt; rw [decide_eq_true (show 0 ≤ int_ xs k by omega), decide_eq_true (show int_ xs k < m by omega), decide_eq_true hk0]; rfl
          subst hk0
          rw [hin]
          clear hin hin'
          have HB := Lib.hid (show okAt m xs (0) = true by exact HK)
          go_wp2
          exact ⟨⟨(0) + 1, by omega, by go_num, fun i hi => by
            rcases Nat.lt_or_ge i (0) with h | h
            · exact HA.out i h
            · obtain rfl : i = (0) := by omega
              exact HB.out⟩, by simp [intOf]; omega⟩
        · obtain ⟨_, _, e, _, h2⟩ := hx0.at_ (show k - 1 < l by omega)
          injection e with e; injection e with e1 e2; subst e1 e2
          obtain ⟨j, rfl⟩ : ∃ j, k = j + 1 := ⟨k - 1, by omega⟩
          rw [Nat.add_sub_cancel] at h2
          rw [hin]
          by_cases hp : int_ xs (j + 1) ≤ int_ xs j
          · have hd3 : decide (int_ xs (j + 1) ≤ int_ xs j) = true := by simpa using hp
            clear hin
            have HB := Lib.hid (show okAt m xs (j + 1) = false by unfold okAt; rw [decide_eq_false hk0, Nat.add_sub_cancel, decide_eq_false (show ¬ int_ xs j < int_ xs (j + 1) by omega)]; simp)
            go_wp2
            go_ret
            exact ⟨rt_bool (by unfold isTreeP; rw [hel, ascI_no hkl HB.out]; rfl), hb⟩
          · have hd3 : decide (int_ xs (j + 1) ≤ int_ xs j) = false := by simpa using hp
            clear hin
            have HB := Lib.hid (show okAt m xs (j + 1) = true by unfold okAt; rw [Nat.add_sub_cancel, decide_eq_true (show 0 ≤ int_ xs (j + 1) by omega), decide_eq_true (show int_ xs (j + 1) < m by omega), decide_eq_true (show int_ xs j < int_ xs (j + 1) by omega)]; simp)
            go_wp2
            exact ⟨⟨(j + 1) + 1, by omega, by go_num, fun i hi => by
              rcases Nat.lt_or_ge i (j + 1) with h | h
              · exact HA.out i h
              · obtain rfl : i = (j + 1) := by omega
                exact HB.out⟩, by simp [intOf]; omega⟩
      · rw [Bool.not_eq_true] at hin
        have hin' := hin
        unfold inR at hin'
        rw [hin]
        clear hin
        have HB := Lib.hid (show okAt m xs (k) = false by (unfold okAt; rw [show decide (int_ xs k < (m : Int)) = decide (int_ xs k ≤ (m : Int) - 1) by (congr 1; exact propext ⟨fun h => by omega, fun h => by omega⟩), hin']; rfl))
        go_wp2
        go_ret
        exact ⟨rt_bool (by unfold isTreeP; rw [hel, ascI_no hkl HB.out]; rfl), hb⟩
    · obtain rfl : k = l := by omega
      have hall : ∀ i, i < xs.length → okAt m xs i = true := fun i hi => HA.out i (by omega)
      obtain ⟨hxx, hlt⟩ := toNat_back hall
      have hasc : Hid (ascI m xs = true) := ascI_yes hall
      have hle := kruT_length_le n es (xs.map Int.toNat)
      rw [List.length_map, hxl] at hle
      have HI := Lib.hid (show isTreeP n es xs = (ascI m xs && decide (xs.length + 1 = n) && decide ((kruT n es (xs.map Int.toNat)).length + 1 = n)) by unfold isTreeP; rw [hel])
      have hob : RdN w0 A k (xs.map Int.toNat) := by
        refine ⟨by rw [List.length_map]; exact hxl, ?_⟩
        rw [nv_iv, ← hxx]; exact hx0.2
      have HX := Lib.hid hxx
      clear hxx hall HA
      have HJ := Lib.hid (hjn _ w0 he0 hob hlt)
      clear hjn
      go_wp2_with fail
      refine HJ.out.mono ?_
      rintro e w2 ⟨b9, ups, rfl, hp2, hR2, hb2, hb9⟩
      have hbb := hb.trans (hb2.mono hb.size)
      have hc02 := Below.keeps hb2 _ _ hc0
      have HT : Hid ((kruF n es (xs.map Int.toNat)).2.length = (kruT n es (xs.map Int.toNat)).length) := rfl
      have hle : (kruT n es (xs.map Int.toNat)).length ≤ k := hle
      generalize (kruT n es (xs.map Int.toNat)).length = T at *
      have HXL := Lib.hid hxl
      by_cases h1 : k + 1 = n
      · have hd1 : (((k : Nat) : Int) == (n : Int) - 1) = true := by simp; omega
        by_cases h2 : T + 1 = n
        · have hd2 : (((T : Nat) : Int) == (n : Int) - 1) = true := by simp; omega
          have H1 := Lib.hid h1
          have H2 := Lib.hid h2
          clear h1 h2 hxl
          go_wp2
          go_ret
          exact ⟨rt_bool (by rw [HI.out, hasc.out, HXL.out, decide_eq_true H1.out, decide_eq_true H2.out]; rfl), hbb⟩
        · have hd2 : (((T : Nat) : Int) == (n : Int) - 1) = false := by simp; omega
          have H1 := Lib.hid h1
          have H2 := Lib.hid h2
          clear h1 h2 hxl
          go_wp2
          go_ret
          exact ⟨rt_bool (by rw [HI.out, hasc.out, HXL.out, decide_eq_true H1.out, decide_eq_false H2.out]; rfl), hbb⟩
      · have hd1 : (((k : Nat) : Int) == (n : Int) - 1) = false := by simp; omega
        have H1 := Lib.hid h1
        clear h1 hxl
        go_wp2
        go_ret
        exact ⟨rt_bool (by rw [HI.out, hasc.out, HXL.out, decide_eq_false H1.out]; rfl), hbb⟩

end Go.Proofs.Ytpfbichomgojoaa
