/- Walks of the library's small functions at this program's types: Contains, ContainsFunc, Clone, DeleteFunc, Compare; and of the program's closures. -/
import Derived.Test.YtpfbichomgojoaaP1
import Derived.StillTailTactics
import Derived.Sort.Grow
import Derived.Deep.RegionHeld3
namespace Go.Proofs.Ytpfbichomgojoaa
open Go.RowKit

set_option maxHeartbeats 400000 in
theorem Index_c (A : Option Addr) (n c : Nat) (xs : List Int) (x : Int) (w : World) (hx : RdI w A n xs) (hn : n ≤ 100000) :
    Calls Try.prog 93 #[.slice A n c, .int .i64 x] w fun e w' => (∃ r : Int, e = .returned (.int .i64 r) ∧ decide (0 ≤ r) = hasI xs x) ∧ w = w' := by
  go_enter Try.func93, Try.ntmps93
  go_wp2
  go_loop [8] (fun i => ∃ k : Nat, k ≤ n ∧ i = .int .i64 k ∧ hasI (xs.take k) x = false) (fun i => n - (intOf i).toNat)
  case atStart => exact ⟨0, Nat.zero_le _, rfl, rfl⟩
  case round =>
    obtain ⟨k, hk, rfl, hne⟩ := hrel
    have H := Lib.hid hne
    clear hne
    by_cases hlt : k < n
    · obtain ⟨b, o, rfl, _, h1⟩ := hx.at_ hlt
      have hkl : k < xs.length := by rw [hx.1]; exact hlt
      by_cases he : int_ xs k = x
      · have hd : (x == int_ xs k) = true := by simp [he]
        have HE := Lib.hid he
        clear he
        go_wp2
        go_ret
        exact ⟨⟨(k : Int), rfl, by rw [hasI_yes hkl HE.out]; simp⟩, rfl⟩
      · have hd : (x == int_ xs k) = false := by simp; omega
        have HE := Lib.hid he
        clear he
        go_wp2
        exact ⟨⟨k + 1, by omega, by go_num, hasI_no hkl H.out HE.out⟩, by simp [intOf]; omega⟩
    · go_wp2
      go_ret
      obtain rfl : k = n := by omega
      have h := H.out
      rw [List.take_of_length_le (by rw [hx.1]; exact Nat.le_refl _)] at h
      exact ⟨⟨-1, rfl, by rw [h]; rfl⟩, rfl⟩

theorem Contains_c (A : Option Addr) (n c : Nat) (xs : List Int) (x : Int) (w : World) (hx : RdI w A n xs) (hn : n ≤ 100000) :
    Calls Try.prog 73 #[.slice A n c, .int .i64 x] w fun e w' => e = .returned (.bool (hasI xs x)) ∧ w = w' := by
  go_enter Try.func73, Try.ntmps73
  go_wp2_with fail
  refine (Index_c A n c xs x w hx hn).mono ?_
  rintro e w1 ⟨⟨r, rfl, hr⟩, rfl⟩
  have HR := Lib.hid hr
  clear hr
  go_wp2
  go_ret
  exact ⟨rt_bool HR.out, rfl⟩

def cmpI (x y : Int) : Int := if x < y then -1 else if y < x then 1 else 0
theorem Compare_c (x y : Int) (w : World) : Calls Try.prog 71 #[.int .i64 x, .int .i64 y] w fun e w' => e = .returned (.int .i64 (cmpI x y)) ∧ w = w' := by
  have hx : (x != x) = false := by simp
  have hy : (y != y) = false := by simp
  rcases Int.lt_trichotomy x y with h | h | h
  · have HR := Lib.hid (show cmpI x y = -1 by unfold cmpI; rw [if_pos h])
    go_enter Try.func71, Try.ntmps71
    go_wp2
    go_ret
    exact ⟨rt_int HR.out.symm, rfl⟩
  · subst h
    have HR := Lib.hid (show cmpI x x = 0 by unfold cmpI; rw [if_neg (by omega), if_neg (by omega)])
    go_enter Try.func71, Try.ntmps71
    go_wp2
    go_ret
    exact ⟨rt_int HR.out.symm, rfl⟩
  · have HR := Lib.hid (show cmpI x y = 1 by unfold cmpI; rw [if_neg (by omega), if_pos h])
    go_enter Try.func71, Try.ntmps71
    go_wp2
    go_ret
    exact ⟨rt_int HR.out.symm, rfl⟩

/-- The first number of a list that isn't 0. -/
def firstNz : List Int → Int
  | [] => 0
  | x :: l => if x = 0 then firstNz l else x
theorem firstNz_drop {xs : List Int} {k : Nat} (h : k < xs.length) : firstNz (xs.drop k) = if int_ xs k = 0 then firstNz (xs.drop (k + 1)) else int_ xs k := by
  rw [int_get h, List.drop_eq_getElem_cons h]; rfl
theorem first_c (A : Option Addr) (n c : Nat) (xs : List Int) (w : World) (hx : RdI w A n xs) (hn : n ≤ 100000) :
    Calls Try.prog 70 #[.slice A n c] w fun e w' => e = .returned (.int .i64 (firstNz xs)) ∧ w = w' := by
  go_enter Try.func70, Try.ntmps70
  go_wp2
  go_loop [7] (fun i => ∃ k : Nat, k ≤ n ∧ i = .int .i64 k ∧ firstNz (xs.drop k) = firstNz xs) (fun i => n - (intOf i).toNat)
  case atStart => exact ⟨0, Nat.zero_le _, rfl, rfl⟩
  case round =>
    obtain ⟨k, hk, rfl, hne⟩ := hrel
    have H := Lib.hid hne
    clear hne
    by_cases hlt : k < n
    · obtain ⟨b, o, rfl, _, h1⟩ := hx.at_ hlt
      have hkl : k < xs.length := by rw [hx.1]; exact hlt
      have HD := Lib.hid (firstNz_drop hkl)
      by_cases he : int_ xs k = 0
      · have hd : (int_ xs k != 0) = false := by simp [he]
        have HE := Lib.hid he
        clear he
        go_wp2
        exact ⟨⟨k + 1, by omega, by go_num, by rw [← H.out, HD.out, if_pos HE.out]⟩, by simp [intOf]; omega⟩
      · have hd : (int_ xs k != 0) = true := by simpa using he
        have HE := Lib.hid he
        clear he
        go_wp2
        go_ret
        exact ⟨rt_int (by rw [← H.out, HD.out, if_neg HE.out]), rfl⟩
    · go_wp2
      go_ret
      obtain rfl : k = n := by omega
      have h := H.out
      rw [List.drop_of_length_le (by rw [hx.1]; exact Nat.le_refl _)] at h
      exact ⟨rt_int h, rfl⟩

theorem rdI_two (w : World) (x y : Int) : RdI (w.alloc (.cells #[.int .i64 x, .int .i64 y] 3)) (some ⟨w.heap.size, 0, none⟩) 2 [x, y] := by
  refine ⟨rfl, fun j hj => ⟨w.heap.size, 0, rfl, ?_⟩⟩
  rw [World.cell?_alloc_at _ _ _ _ rfl]
  have : j = 0 ∨ j = 1 := by simp [iv] at hj; omega
  rcases this with rfl | rfl <;> rfl
/-- What the program's comparison of two streets gives. -/
def ordC (es : List Ed) (x y : Nat) : Int := firstNz [cmpI (ew es x) (ew es y), cmpI x y]
set_option maxHeartbeats 1000000 in
theorem ordered1_c (tb : Nat) (A : Option Addr) (m c : Nat) (es : List Ed) (x y : Nat) (w : World) (he : RdE w A m es) (ht : w.cell? ⟨tb, 1, none⟩ = some (.slice A m c)) (hx : x < m) (hy : y < m) :
    Calls Try.prog 69 #[.int .i64 (x : Int), .int .i64 (y : Int), .pointer (some ⟨tb, 0, none⟩)] w fun e w' => e = .returned (.int .i64 (ordC es x y)) ∧ ∃ q os', w' = Go.Sort.grow (w.drewN q) os' := by
  obtain ⟨b, o, rfl, hb, _, _, h1⟩ := he.at_ hx
  obtain ⟨_, _, e, _, _, _, h2⟩ := he.at_ hy
  injection e with e; injection e with e1 e2; subst e1 e2
  go_enter Try.func69, Try.ntmps69
  go_wp2
  have htb : tb < w.heap.size := World.block_lt_of_cell? _ _ ht
  have HF := Lib.hid (fun W h => first_c (some ⟨w.heap.size, 0, none⟩) 2 2 [cmpI (ew es x : Nat) (ew es y : Nat), cmpI x y] W h (by omega))
  go_region_held3 (fun w' => w'.cell? ⟨tb, 1, none⟩ = some (.slice (some ⟨b, o, none⟩) m c) ∧ w'.cell? ⟨b, o + x * 3 + 2, none⟩ = some (.int .i64 (ew es x : Nat)) ∧ w'.cell? ⟨b, o + y * 3 + 2, none⟩ = some (.int .i64 (ew es y : Nat))) (go_keep) (first | (go_at_call 71; refine (Compare_c _ _ _).mono ?_; rintro e w' ⟨rfl, rfl⟩) | (go_at_call 70; refine (HF.out _ ?_).mono ?_; exact rdI_two w _ _; rintro e w' ⟨rfl, rfl⟩))
  go_wp2
  go_ret
  exact ⟨rfl, 1, #[_], by rw [Go.Sort.alloc_eq_grow, Go.Sort.drew_grow]; rfl⟩


/-- Whether a street is none of a net with n vertices. -/
def badS (n : Int) (s : St) : Bool := !inR s.a 0 (n - 1) || !inR s.b 0 (n - 1) || s.a == s.b || !inR s.w 0 1000
set_option maxHeartbeats 1000000 in
theorem bad_c (nb : Nat) (n : Int) (s : St) (w : World) (hn : w.cell? ⟨nb, 0, none⟩ = some (.int .i64 n)) (h1 : 1 ≤ n) (h2 : n ≤ 16) :
    Calls Try.prog 60 #[.agg #[.int .i64 s.a, .int .i64 s.b, .int .i64 s.w], .pointer (some ⟨nb, 0, none⟩)] w fun e w' => e = .returned (.bool (badS n s)) ∧ Below w.heap.size w w' := by
  have hnb : nb < w.heap.size := World.block_lt_of_cell? _ _ hn
  obtain ⟨a, b, ww⟩ := s
  simp only
  cases k1 : inR a 0 (n - 1)
  · have HB := Lib.hid (show badS n ⟨a, b, ww⟩ = true by unfold badS; simp [k1])
    go_enter Try.func60, Try.ntmps60
    go_wp2_with (go_at_call 52; refine (within_c _ _ _ _).mono ?_; rintro e w' ⟨rfl, rfl⟩)
    go_ret
    exact ⟨rt_bool HB.out.symm, (Below.refl _ _).alloc (Nat.le_refl _) _⟩
  · cases k2 : inR b 0 (n - 1)
    · have HB := Lib.hid (show badS n ⟨a, b, ww⟩ = true by unfold badS; simp [k1, k2])
      go_enter Try.func60, Try.ntmps60
      go_wp2_with (go_at_call 52; refine (within_c _ _ _ _).mono ?_; rintro e w' ⟨rfl, rfl⟩)
      go_ret
      exact ⟨rt_bool HB.out.symm, (Below.refl _ _).alloc (Nat.le_refl _) _⟩
    · by_cases k3 : a = b
      · have hd : (a == b) = true := by simp [k3]
        have HB := Lib.hid (show badS n ⟨a, b, ww⟩ = true by unfold badS; simp [k3])
        clear k3
        go_enter Try.func60, Try.ntmps60
        go_wp2_with (go_at_call 52; refine (within_c _ _ _ _).mono ?_; rintro e w' ⟨rfl, rfl⟩)
        go_ret
        exact ⟨rt_bool HB.out.symm, (Below.refl _ _).alloc (Nat.le_refl _) _⟩
      · have hd : (a == b) = false := by simp [k3]
        cases k4 : inR ww 0 1000
        · have HB := Lib.hid (show badS n ⟨a, b, ww⟩ = true by unfold badS; simp [k4])
          clear k3
          go_enter Try.func60, Try.ntmps60
          go_wp2_with (go_at_call 52; refine (within_c _ _ _ _).mono ?_; rintro e w' ⟨rfl, rfl⟩)
          go_ret
          exact ⟨rt_bool HB.out.symm, (Below.refl _ _).alloc (Nat.le_refl _) _⟩
        · have HB := Lib.hid (show badS n ⟨a, b, ww⟩ = false by unfold badS; simp [k1, k2, k3, k4])
          clear k3
          go_enter Try.func60, Try.ntmps60
          go_wp2_with (go_at_call 52; refine (within_c _ _ _ _).mono ?_; rintro e w' ⟨rfl, rfl⟩)
          go_ret
          exact ⟨rt_bool HB.out.symm, (Below.refl _ _).alloc (Nat.le_refl _) _⟩

set_option maxHeartbeats 1000000 in
theorem IndexFuncS_c (nb : Nat) (n : Int) (A : Option Addr) (m c : Nat) (ss : List St) (w : World) (hs : RdS w A m ss) (hn : w.cell? ⟨nb, 0, none⟩ = some (.int .i64 n)) (h1 : 1 ≤ n) (h2 : n ≤ 16) (hm : m ≤ 1000) :
    Calls Try.prog 74 #[.slice A m c, .func (.func 60) #[] #[.pointer (some ⟨nb, 0, none⟩)]] w fun e w' => (∃ r : Int, e = .returned (.int .i64 r) ∧ decide (0 ≤ r) = ss.any (badS n)) ∧ Below w.heap.size w w' := by
  have hnb : nb < w.heap.size := World.block_lt_of_cell? _ _ hn
  go_enter Try.func74, Try.ntmps74
  go_wp2
  go_loopw [8] (fun i wr => ∃ k : Nat, k ≤ m ∧ i = .int .i64 k ∧ (ss.take k).any (badS n) = false ∧ Below w.heap.size w wr) (fun i _ => m - (intOf i).toNat)
  case atStart => exact ⟨0, Nat.zero_le _, rfl, rfl, Below.refl _ _⟩
  case round =>
    obtain ⟨k, hk, rfl, hne, hbe⟩ := hrel
    have H := Lib.hid hne
    clear hne
    by_cases hlt : k < m
    · obtain ⟨b, o, rfl, hb, g1, g2, g3⟩ := (hs.below hbe).at_ hlt
      have hkl : k < ss.length := by rw [hs.1]; exact hlt
      have hn' : wr.cell? ⟨nb, 0, none⟩ = some (.int .i64 n) := (hbe.cell hnb).trans hn
      have hany : (ss.take (k + 1)).any (badS n) = ((ss.take k).any (badS n) || badS n (st_ ss k)) := by
        rw [List.take_succ_eq_append_getElem hkl, List.any_append, st_get hkl]; simp
      have HN := Lib.hid hany
      clear hany
      generalize hst : st_ ss k = s at *
      have HSt := Lib.hid hst
      clear hst
      have HBad := Lib.hid (bad_c nb n s wr hn' h1 h2)
      go_wp2_with fail
      refine HBad.out.mono ?_
      rintro e w3 ⟨rfl, hb3⟩
      have hbe3 := hbe.trans (hb3.mono hbe.size)
      cases hbs : badS n s
      · have HB := Lib.hid hbs
        clear hbs
        go_wp2
        exact ⟨⟨k + 1, by omega, by go_num, by rw [HN.out, H.out, HB.out]; rfl, hbe3⟩, by simp [intOf]; omega⟩
      · have HB := Lib.hid hbs
        clear hbs
        go_wp2
        go_ret
        refine ⟨⟨(k : Int), rfl, ?_⟩, hbe3⟩
        have : ss.any (badS n) = true := List.any_eq_true.2 ⟨s, by rw [← HSt.out, st_get hkl]; exact List.getElem_mem hkl, HB.out⟩
        rw [this]; simp
    · obtain rfl : k = m := by omega
      have h := H.out
      rw [List.take_of_length_le (by rw [hs.1]; exact Nat.le_refl _)] at h
      have HH := Lib.hid h
      clear h
      go_wp2
      go_ret
      exact ⟨⟨-1, rfl, by rw [HH.out]; rfl⟩, hbe⟩

theorem ContainsFuncS_c (nb : Nat) (n : Int) (A : Option Addr) (m c : Nat) (ss : List St) (w : World) (hs : RdS w A m ss) (hn : w.cell? ⟨nb, 0, none⟩ = some (.int .i64 n)) (h1 : 1 ≤ n) (h2 : n ≤ 16) (hm : m ≤ 1000) :
    Calls Try.prog 61 #[.slice A m c, .func (.func 60) #[] #[.pointer (some ⟨nb, 0, none⟩)]] w fun e w' => e = .returned (.bool (ss.any (badS n))) ∧ Below w.heap.size w w' := by
  go_enter Try.func61, Try.ntmps61
  go_wp2_with fail
  refine (IndexFuncS_c nb n A m c ss w hs hn h1 h2 hm).mono ?_
  rintro e w1 ⟨⟨r, rfl, hr⟩, hb⟩
  have HR := Lib.hid hr
  clear hr
  go_wp2
  go_ret
  exact ⟨rt_bool HR.out, hb⟩

/-- A copy of a slice of numbers. -/
theorem Clone_c (A : Option Addr) (n c : Nat) (xs : List Nat) (w : World) (hx : RdN w A n xs) (hn : n ≤ 100000) :
    Calls Try.prog 91 #[.slice A n c] w fun e w' => ∃ A' c', e = .returned (.slice A' n c') ∧ OwnN w' w.heap.size A' n c' xs ∧ Below w.heap.size w w' := by
  rcases A with _ | ad
  · have h0 : n = 0 := by
      rcases Nat.eq_zero_or_pos n with h | h
      · exact h
      · obtain ⟨_, _, e, _⟩ := hx.at_ h; cases e
    subst h0
    have hx0 : xs = [] := List.eq_nil_of_length_eq_zero hx.1
    subst hx0
    have h1 := @Lib.run_eql_slice_nil Try.prog
    go_enter Try.func91, Try.ntmps91
    go_wp2
    go_ret
    exact ⟨none, 0, rfl, OwnN.none_ _ _, Below.refl _ _⟩
  · have h1 := @Lib.run_eql_slice_nil Try.prog
    have hz : OwnN (w.alloc (.cells #[] 3)) w.heap.size (some ⟨w.heap.size, 0, none⟩) 0 0 [] := World.ownsRow_lit w #[] 0 (Nat.le_refl _) (by simp [maxLen]) (by simp)
    have hx' := hx.below (below_one' w (.cells #[] 3))
    go_enter Try.func91, Try.ntmps91
    go_wp2_with ((with_reducible show Go.wpList _ _ _ ({ dst := some 7, op := _, type := _, pos := _, after := _, guard := _ } :: _) _ _); refine wpList_app_n hz hx' rfl _ _ rfl rfl rfl (by omega) (by simp) ?_; intro A' c' w' ho hb hg; simp only [Nat.zero_add, List.nil_append] at ho)
    go_ret
    exact ⟨A', c', rfl, ho, (below_one' w _).trans hb⟩

end Go.Proofs.Ytpfbichomgojoaa
