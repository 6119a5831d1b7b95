/- Walks of the reference: Taken, First, Weight, Tree, Swapped, Narrow. -/
import Derived.Test.YtpfbichomgojoaaW1
namespace Go.Proofs.Ytpfbichomgojoaa
open Go.RowKit

set_option maxHeartbeats 1000000 in
theorem Taken_c (n : Nat) (A : Option Addr) (m c : Nat) (es : List Ed) (Ao : Option Addr) (mo co : Nat) (order : List Nat) (w : World) (he : RdE w A m es) (ho : RdN w Ao mo order)
    (hnet : Net n es) (hmo : mo ≤ 1000) (hord : ∀ x ∈ order, x < m) :
    Calls Try.prog 50 #[.int .i64 (n : Int), .slice A m c, .slice Ao mo co] w fun e w' => ∃ A1 c1 A2 c2, e = .returned (.tuple #[.slice A1 (takL n es order).length c1, .slice A2 n c2]) ∧
      OwnN w' w.heap.size A1 (takL n es order).length c1 (takL n es order) ∧ OwnN w' w.heap.size A2 n c2 (takG n es order) ∧ Below w.heap.size w w' := by
  have hm : m ≤ 60 := by have := hnet.len; rw [he.len] at this; exact this
  have hn16 := hnet.n16
  have hn1 := hnet.n1
  go_enter Try.func50, Try.ntmps50
  go_wp2_with (first | (go_at_call 46; refine (start_c n w (by omega)).mono ?_; rintro e w1 ⟨A8, c8, rfl, ho8, hb1⟩; have hz1 := hb1.size) | ((with_reducible show Go.wpList _ _ _ ({ dst := some 18, op := _, type := _, pos := _, after := _, guard := _ } :: _) _ _); refine wpList_mk sl99 rfl rfl _ _ rfl rfl rfl (by omega) (by omega) ?_; intro w2 ho9 hb2))
  have hb12 : Below w.heap.size w w2 := hb1.trans (hb2.mono hz1)
  have ho8' : OwnN w2 w.heap.size A8 n c8 (takF n es (order.take 0)).1 := own_below ho8 hb2
  have ho9' : OwnB w2 w1.heap.size (some ⟨w1.heap.size, 0, none⟩) m m (takF n es (order.take 0)).2 := by
    show OwnB w2 w1.heap.size (some ⟨w1.heap.size, 0, none⟩) m m (List.replicate es.length false)
    rw [he.len]; unfold OwnB bv; rw [List.map_replicate]; exact ho9
  have hne8 : blk A8 ≠ some w1.heap.size := fun e => by have := (own_lt ho8 _ e).2; omega
  have hle9 : w.heap.size ≤ w1.heap.size := hz1
  clear ho8 ho9 hb1 hb2 hz1
  generalize w1.heap.size = gb at ho9' hne8 hle9 ⊢
  go_loopw [8, 10] (fun g i wr => ∃ k Ag cg, k ≤ mo ∧ i = .int .i64 ((k : Nat) : Int) ∧ g = .slice Ag n cg ∧ OwnN wr w.heap.size Ag n cg (takF n es (order.take k)).1 ∧
    OwnB wr gb (some ⟨gb, 0, none⟩) m m (takF n es (order.take k)).2 ∧ blk Ag ≠ some gb ∧ Below w.heap.size w wr) (fun _ i _ => mo - (intOf i).toNat)
  case atStart => exact ⟨0, A8, c8, Nat.zero_le _, rfl, rfl, ho8', ho9', hne8, hb12⟩
  case round =>
    clear ho8' ho9' hne8 hb12
    obtain ⟨k, Ag, cg, hk, rfl, rfl, hog, hoi, hneg, hbe⟩ := hrel
    by_cases hkm : k < mo
    · obtain ⟨b1, o1, rfl, _, h1⟩ := (ho.below hbe).at_ hkm
      have hkl : k < order.length := by rw [ho.1]; exact hkm
      have hp : nat_ order k < m := hord _ (nat_mem hkl)
      have HS := Lib.hid (takF_succ n es order k hkl)
      generalize hpp : nat_ order k = p at h1 hp HS
      have HP := Lib.hid hpp
      clear hpp
      obtain ⟨b2, o2, rfl, hb2, h2, h3, h4⟩ := (he.below hbe).at_ hp
      have hpe := hnet.ends _ (ed_mem (by rw [he.len]; exact hp))
      obtain ⟨b3, o3, rfl, hb3, h5⟩ := hog.rd.at_ hpe.1
      obtain ⟨_, _, e, _, h6⟩ := hog.rd.at_ hpe.2.1
      injection e with e; injection e with e1 e2; subst e1 e2
      have hinv := takF_inv n es (order.take k) (by omega)
      generalize hG : takF n es (order.take k) = G at *
      clear hG
      by_cases hab : nat_ G.1 (ed_ es p).a = nat_ G.1 (ed_ es p).b
      · have hd : (((nat_ G.1 (ed_ es p).a : Nat) : Int) != ((nat_ G.1 (ed_ es p).b : Nat) : Int)) = false := by simp [hab]
        have HAB := Lib.hid hab
        clear hab
        go_wp2
        go_quiet (fail)
        go_wp2
        have hx := below_one wr (.cells #[.int .i64 (ed_ es p).a, .int .i64 (ed_ es p).b, .int .i64 (ew es p)] 42) nq
        refine ⟨⟨k + 1, _, cg, by omega, by go_num, rfl, ?_, ?_, hneg, hbe.trans (hx.mono hbe.size)⟩, by simp [intOf]; omega⟩
        · rw [HS.out, takS_no HAB.out]; exact own_below hog hx
        · rw [HS.out, takS_no HAB.out]; exact own_below hoi hx
      · have hd : (((nat_ G.1 (ed_ es p).a : Nat) : Int) != ((nat_ G.1 (ed_ es p).b : Nat) : Int)) = true := by simp; omega
        have HAB := Lib.hid hab
        clear hab
        go_wp2
        go_quiet (fail)
        go_wp2_with fail
        have hx := below_one wr (.cells #[.int .i64 (ed_ es p).a, .int .i64 (ed_ es p).b, .int .i64 (ew es p)] 42) nq
        generalize World.drewN _ nq = wx at hx ⊢
        have hog' : OwnN wx _ _ n cg G.1 := own_below hog hx
        have hoi' : OwnB wx _ _ m m G.2 := own_below hoi hx
        have hbe' := hbe.trans (hx.mono hbe.size)
        clear h1 h2 h3 h4 h5 h6 hbe hog hoi hb2 hb3 hx
        refine (rjoin_c _ n cg G.1 _ _ wx hog'.rd (by omega) hpe.1 hpe.2.1 (fun i => by have := nat_lt_of hinv.2.1 (by omega) i; omega)).mono ?_
        rintro e w3 ⟨A3, c3, rfl, ho3, hb3⟩
        have hgx := (own_lt hoi' gb rfl).2
        have hoi3 : OwnB w3 _ _ m m G.2 := own_below hoi' hb3
        have hbe3 := hbe'.trans (hb3.mono hbe'.size)
        obtain ⟨_, _, e, _, h1'⟩ := (ho.below hbe3).at_ hkm
        injection e with e; injection e with e1 e2; subst e1 e2
        rw [show nat_ order k = p from HP.out] at h1'
        obtain ⟨g0, e, hg0, hlt0, hc0, hf0, hst⟩ := own_at hoi3 (bv_get G.2 p (by rw [hinv.2.2, he.len]; exact hp))
        injection e with e; injection e with e1; subst e1
        have hne3 : blk A3 ≠ some gb := fun e => by have := (own_lt ho3 _ e).1; omega
        go_wp2
        refine ⟨⟨k + 1, A3, c3, by omega, by go_num, rfl, ?_, ?_, hne3, hbe3.trans (below_of_grown (hst _).2 hbe3.size hle9)⟩, by simp [intOf]; omega⟩
        · rw [HS.out, takS_yes HAB.out]; exact own_other (own_mono ho3 hbe'.size) (hst _).2 hne3
        · rw [HS.out, takS_yes HAB.out]; have := (hst (.bool true)).1; rw [bv_set] at this; exact this
    · obtain rfl : k = mo := by omega
      rw [List.take_of_length_le (by rw [ho.1]; exact Nat.le_refl _)] at hog hoi
      have hinv := takF_inv n es order (by omega)
      have HL : Hid (takL n es order = (List.range m).filter fun i => bool_ (takF n es order).2 i) := by unfold takL; rw [he.len]; exact rfl
      obtain ⟨G, hG⟩ : ∃ G, G = takF n es order := ⟨_, rfl⟩
      rw [← hG] at hog hoi hinv
      have HG := Lib.hid hG
      clear hG HL
      go_wp2
      obtain ⟨ww, rfl⟩ : ∃ ww : World, ww = wr := ⟨_, rfl⟩
      go_loopw [12, 13] (fun s i wq => ∃ j A4 c4, j ≤ m ∧ i = .int .i64 ((j : Nat) : Int) ∧ s = .slice A4 ((List.range j).filter fun i => bool_ G.2 i).length c4 ∧ OwnN wq ww.heap.size A4 ((List.range j).filter fun i => bool_ G.2 i).length c4 ((List.range j).filter fun i => bool_ G.2 i) ∧ Below ww.heap.size ww wq) (fun _ i _ => m - (intOf i).toNat)
      case atStart => exact ⟨0, none, 0, Nat.zero_le _, rfl, rfl, OwnN.none_ _ _, Below.refl _ _⟩
      case round =>
        obtain ⟨j, A4, c4, hj, rfl, rfl, hos, hbq⟩ := hrel
        have hfl := List.length_filter_le (fun i => bool_ G.2 i) (List.range j)
        rw [List.length_range] at hfl
        by_cases hjm : j < m
        · have hoi4 : OwnB wr _ _ m m G.2 := own_below hoi hbq
          obtain ⟨g0, e, _, _, hc0, _⟩ := own_at hoi4 (bv_get G.2 j (by rw [hinv.2.2, he.len]; exact hjm))
          injection e with e; injection e with e1; subst e1
          have HF := Lib.hid (filter_range_succ (fun i => bool_ G.2 i) j)
          have hz := hbq.size
          generalize (List.range j).filter (fun i => bool_ G.2 i) = F at hos hfl HF ⊢
          cases hbj : bool_ G.2 j
          · rw [hbj] at hc0
            have HB := Lib.hid hbj
            clear hbj
            go_wp2
            refine ⟨⟨j + 1, A4, c4, by omega, by go_num, ?_, ?_, hbq⟩, by simp [intOf]; omega⟩
            · rw [HF.out, HB.out]; simp
            · rw [HF.out, HB.out]; simpa using hos
          · rw [hbj] at hc0
            have HB := Lib.hid hbj
            clear hbj
            go_wp2_with ((with_reducible show Go.wpList _ _ _ ({ dst := some 68, op := _, type := _, pos := _, after := _, guard := _ } :: _) _ _); refine wpList_push_n (v := j) hos rfl _ _ rfl rfl rfl (by omega) hz ?_; intro A5 c5 w5 ho5 hb5 hg5)
            refine ⟨⟨j + 1, A5, c5, by omega, by go_num, ?_, ?_, hbq.trans hb5⟩, by simp [intOf]; omega⟩
            · rw [HF.out, HB.out]; simp
            · rw [HF.out, HB.out]; simpa using ho5
        · obtain rfl : j = m := by omega
          have hog' := own_below hog hbq
          go_wp2
          go_ret2
          have hL : takL n es order = (List.range j).filter fun i => bool_ G.2 i := by unfold takL; rw [he.len, ← HG.out]
          rw [hL]
          exact ⟨A4, c4, _, cg, rfl, own_mono hos hbe.size, by unfold takG; rw [← HG.out]; exact hog', hbe.trans (hbq.mono hbe.size)⟩

theorem ret_two {v u v' u' : Value} (h1 : v = v') (h2 : u = u') : Ending.returned (.tuple #[v, u]) = .returned (.tuple #[v', u']) := by rw [h1, h2]

set_option maxHeartbeats 1000000 in
theorem First_c (n : Nat) (A : Option Addr) (m c : Nat) (es : List Ed) (w : World) (he : RdE w A m es) (hnet : Net n es) :
    Calls Try.prog 20 #[.int .i64 (n : Int), .slice A m c] w fun e w' => ∃ A1 c1, e = .returned (.tuple #[.slice A1 (firstL n es).length c1, .bool (firstOk n es)]) ∧
      OwnN w' w.heap.size A1 (firstL n es).length c1 (firstL n es) ∧ Below w.heap.size w w' := by
  have hm : m ≤ 60 := by have := hnet.len; rw [he.len] at this; exact this
  have hn16 := hnet.n16
  have hn1 := hnet.n1
  have hle := takL_length_le n es (ordL es)
  rw [he.len] at hle
  have HF := Lib.hid (show takL n es (ordL es) = firstL n es from rfl)
  go_enter Try.func20, Try.ntmps20
  go_wp2_with fail
  refine (Order_c A m c es w he (by omega)).mono ?_
  rintro e w1 ⟨A1, c1, rfl, ho1, hb1⟩
  go_wp2_with fail
  refine (Taken_c n A m c es A1 m c1 (ordL es) w1 (he.below hb1) ho1.rd hnet (by omega) (fun x hx => by have := (ordL_mem es x).1 hx; rw [he.len] at this; exact this)).mono ?_
  rintro e w2 ⟨A2, c2, A3, c3, rfl, ho2, ho3, hb2⟩
  have hbb := hb1.trans (hb2.mono hb1.size)
  have hz := hb1.size
  rw [HF.out] at ho2 hle ⊢
  by_cases hf : (firstL n es).length + 1 = n
  · have hd : ((((firstL n es).length : Nat) : Int) == (n : Int) - 1) = true := by simp; omega
    have HD := Lib.hid hf
    clear hf
    go_wp2
    go_ret2
    exact ⟨A2, c2, ret_two rfl (congrArg Value.bool (show true = firstOk n es by unfold firstOk; rw [decide_eq_true HD.out])), own_mono ho2 hz, hbb⟩
  · have hd : ((((firstL n es).length : Nat) : Int) == (n : Int) - 1) = false := by simp; omega
    have HD := Lib.hid hf
    clear hf
    go_wp2
    go_ret2
    exact ⟨A2, c2, ret_two rfl (congrArg Value.bool (show false = firstOk n es by unfold firstOk; rw [decide_eq_false HD.out])), own_mono ho2 hz, hbb⟩

set_option maxHeartbeats 1000000 in
theorem Weight_c (n : Nat) (A : Option Addr) (m c : Nat) (es : List Ed) (Ao : Option Addr) (mo co : Nat) (l : List Nat) (w : World) (he : RdE w A m es) (ho : RdN w Ao mo l)
    (hnet : Net n es) (hmo : mo ≤ 1000) (hl : ∀ x ∈ l, x < m) :
    Calls Try.prog 22 #[.slice A m c, .slice Ao mo co] w fun e w' => e = .returned (.int .i64 ((wsum es l : Nat) : Int)) ∧ w = w' := by
  go_enter Try.func22, Try.ntmps22
  go_wp2
  go_loop [5, 6] (fun s i => ∃ k : Nat, k ≤ mo ∧ i = .int .i64 ((k : Nat) : Int) ∧ s = .int .i64 ((wsum es (l.take k) : Nat) : Int)) (fun _ i => mo - (intOf i).toNat)
  case atStart => exact ⟨0, Nat.zero_le _, rfl, rfl⟩
  case round =>
    obtain ⟨k, hk, rfl, rfl⟩ := hrel
    by_cases hkm : k < mo
    · have hkl : k < l.length := by rw [ho.1]; exact hkm
      obtain ⟨b1, o1, rfl, _, h1⟩ := ho.at_ hkm
      have hp : nat_ l k < m := hl _ (nat_mem hkl)
      obtain ⟨b2, o2, rfl, _, _, _, h2⟩ := he.at_ hp
      have hle := wsum_le hnet (l.take k)
      rw [List.length_take] at hle
      have hle2 : wsum es (l.take k) ≤ 1000000 := by omega
      have hw := ew_le hnet (nat_ l k)
      have HT := Lib.hid (wsum_take (es := es) hkl)
      clear hle
      generalize wsum es (l.take k) = S at *
      generalize nat_ l k = p at *
      go_wp2
      exact ⟨⟨k + 1, by omega, by go_num, by rw [HT.out]; go_num⟩, by simp [intOf]; omega⟩
    · obtain rfl : k = mo := by omega
      go_wp2
      go_ret
      exact ⟨ret_int (by rw [List.take_of_length_le (by rw [ho.1]; exact Nat.le_refl _)]), rfl⟩

end Go.Proofs.Ytpfbichomgojoaa
