/- Walks of the reference: Tree, Swapped, Narrow. -/
import Derived.Test.YtpfbichomgojoaaW2
namespace Go.Proofs.Ytpfbichomgojoaa
open Go.RowKit


set_option maxHeartbeats 1000000 in
theorem RTree_c (n : Nat) (A : Option Addr) (m c : Nat) (es : List Ed) (Ao : Option Addr) (mo co : Nat) (xs : List Int) (w : World) (he : RdE w A m es) (ho : RdI w Ao mo xs) (hnet : Net n es) (hmo : mo ≤ 1000) :
    Calls Try.prog 28 #[.int .i64 (n : Int), .slice A m c, .slice Ao mo co] w fun e w' => e = .returned (.bool (isTreeI n es xs)) ∧ Below w.heap.size w w' := by
  have hm : m ≤ 60 := by have := hnet.len; rw [he.len] at this; exact this
  have hn16 := hnet.n16
  have hn1 := hnet.n1
  go_enter Try.func28, Try.ntmps28
  go_wp2
  go_loopw [7] (fun i wr => ∃ k : Nat, k ≤ mo ∧ i = .int .i64 ((k : Nat) : Int) ∧ (∀ i, i < k → okAt m xs i = true) ∧ ∃ q, wr = w.drewN q) (fun i _ => mo - (intOf i).toNat)
  case atStart => exact ⟨0, Nat.zero_le _, rfl, fun i h => absurd h (Nat.not_lt_zero _), 0, rfl⟩
  case round =>
    obtain ⟨k, hk, rfl, hall, q, rfl⟩ := hrel
    have HA := Lib.hid hall
    clear hall
    by_cases hkm : k < mo
    · have hkl : k < xs.length := by rw [ho.1]; exact hkm
      obtain ⟨b1, o1, rfl, _, h1⟩ := ho.at_ hkm
      by_cases h0 : int_ xs k < 0
      · have hd : decide (int_ xs k < 0) = true := by simpa using h0
        have HB := Lib.hid (show okAt m xs (k) = false by unfold okAt; rw [decide_eq_false (by omega)]; rfl)
        go_wp2
        go_quiet (fail)
        go_wp2
        go_ret
        exact ⟨ret_bool (by unfold isTreeI; rw [he.len, ascI_no hkl HB.out]; rfl), (by first | exact below_q _ _ | exact drewN_below (below_q _ _) _)⟩
      · have hd : decide (int_ xs k < 0) = false := by simpa using h0
        by_cases hM : (m : Int) ≤ int_ xs k
        · have hd2 : decide ((m : Int) ≤ int_ xs k) = true := by simpa using hM
          have HB := Lib.hid (show okAt m xs (k) = false by unfold okAt; rw [decide_eq_false (show ¬ int_ xs k < m by omega)]; simp)
          go_wp2
          go_quiet (fail)
          go_wp2
          go_ret
          exact ⟨ret_bool (by unfold isTreeI; rw [he.len, ascI_no hkl HB.out]; rfl), (by first | exact below_q _ _ | exact drewN_below (below_q _ _) _)⟩
        · have hd2 : decide ((m : Int) ≤ int_ xs k) = false := by simpa using hM
          by_cases hk0 : k = 0
          · have HK : okAt m xs k = true := by unfold okAt; rw [decide_eq_true (show 0 ≤ int_ xs k by omega), decide_eq_true (show int_ xs k < m by omega), decide_eq_true hk0]; rfl
            subst hk0
            rw [Nat.add_zero] at h1
            have HB := Lib.hid (show okAt m xs (0) = true by exact HK)
            go_wp2
            go_quiet (fail)
            go_wp2
            exact ⟨⟨(0) + 1, by omega, by go_num, fun i hi => by
              rcases Nat.lt_or_ge i (0) with h | h
              · exact HA.out i h
              · obtain rfl : i = (0) := by omega
                exact HB.out, _, rfl⟩, by simp [intOf]; omega⟩
          · obtain ⟨_, _, e, _, h2⟩ := ho.at_ (show k - 1 < mo by omega)
            injection e with e; injection e with e1 e2; subst e1 e2
            obtain ⟨j, rfl⟩ : ∃ j, k = j + 1 := ⟨k - 1, by omega⟩
            rw [Nat.add_sub_cancel] at h2
            by_cases hp : int_ xs (j + 1) ≤ int_ xs j
            · have hd3 : decide (int_ xs (j + 1) ≤ int_ xs j) = true := by simpa using hp
              have HB := Lib.hid (show okAt m xs (j + 1) = false by unfold okAt; rw [decide_eq_false hk0, Nat.add_sub_cancel, decide_eq_false (show ¬ int_ xs j < int_ xs (j + 1) by omega)]; simp)
              go_wp2
              go_quiet (fail)
              go_wp2
              go_ret
              exact ⟨ret_bool (by unfold isTreeI; rw [he.len, ascI_no hkl HB.out]; rfl), (by first | exact below_q _ _ | exact drewN_below (below_q _ _) _)⟩
            · have hd3 : decide (int_ xs (j + 1) ≤ int_ xs j) = false := by simpa using hp
              have HB := Lib.hid (show okAt m xs (j + 1) = true by unfold okAt; rw [Nat.add_sub_cancel, decide_eq_true (show 0 ≤ int_ xs (j + 1) by omega), decide_eq_true (show int_ xs (j + 1) < m by omega), decide_eq_true (show int_ xs j < int_ xs (j + 1) by omega)]; simp)
              go_wp2
              go_quiet (fail)
              go_wp2
              exact ⟨⟨(j + 1) + 1, by omega, by go_num, fun i hi => by
                rcases Nat.lt_or_ge i (j + 1) with h | h
                · exact HA.out i h
                · obtain rfl : i = (j + 1) := by omega
                  exact HB.out, _, rfl⟩, by simp [intOf]; omega⟩
    · obtain rfl : k = mo := by omega
      have hall : ∀ i, i < xs.length → okAt m xs i = true := fun i hi => HA.out i (by rw [← ho.1]; exact hi)
      obtain ⟨hx, hlt⟩ := toNat_back hall
      have hasc : Hid (ascI m xs = true) := ascI_yes hall
      have hle := takL_length_le n es (xs.map Int.toNat)
      have hxl := ho.1
      have HI := Lib.hid (show isTreeI n es xs = (ascI m xs && decide (xs.length + 1 = n) && decide ((takL n es (xs.map Int.toNat)).length + 1 = n)) by unfold isTreeI; rw [he.len])
      have hbq := below_q w q
      have hob : RdN (w.drewN q) Ao k (xs.map Int.toNat) := by
        refine ⟨by rw [List.length_map]; exact hxl, ?_⟩
        rw [nv_iv, ← hx]; exact (ho.below hbq).2
      have heb := he.below hbq
      generalize w.drewN q = wq at *
      have HX := Lib.hid hx
      clear hx hall HA
      go_wp2_with fail
      refine (Taken_c n A m c es Ao k co (xs.map Int.toNat) wq heb hob hnet hmo hlt).mono ?_
      rintro e w2 ⟨A2, c2, A3, c3, rfl, ho2, ho3, hb2⟩
      have hbb := hbq.trans (hb2.mono hbq.size)
      rw [he.len] at hle
      generalize (takL n es (xs.map Int.toNat)).length = T at *
      have HXL := Lib.hid hxl
      by_cases h1 : k + 1 = n
      · have hd1 : (((k : Nat) : Int) == (n : Int) - 1) = true := by simp; omega
        by_cases h2 : T + 1 = n
        · have hd2 : (((T : Nat) : Int) == (n : Int) - 1) = true := by simp; omega
          have H1 := Lib.hid h1
          have H2 := Lib.hid h2
          clear h1 h2 hxl
          go_wp2
          go_ret
          exact ⟨ret_bool (by rw [HI.out, hasc.out, HXL.out, decide_eq_true H1.out, decide_eq_true H2.out]; rfl), hbb⟩
        · have hd2 : (((T : Nat) : Int) == (n : Int) - 1) = false := by simp; omega
          have H1 := Lib.hid h1
          have H2 := Lib.hid h2
          clear h1 h2 hxl
          go_wp2
          go_ret
          exact ⟨ret_bool (by rw [HI.out, hasc.out, HXL.out, decide_eq_true H1.out, decide_eq_false H2.out]; rfl), hbb⟩
      · have hd1 : (((k : Nat) : Int) == (n : Int) - 1) = false := by simp; omega
        have H1 := Lib.hid h1
        clear h1 hxl
        go_wp2
        go_ret
        exact ⟨ret_bool (by rw [HI.out, hasc.out, HXL.out, decide_eq_false H1.out]; rfl), hbb⟩


set_option maxHeartbeats 1000000 in
theorem Swapped_c (A : Option Addr) (n c : Nat) (l : List Nat) (out inn : Nat) (w : World) (hl : RdN w A n l) (hn : n ≤ 1000) :
    Calls Try.prog 36 #[.slice A n c, .int .i64 (out : Int), .int .i64 (inn : Int)] w fun e w' => ∃ A1 c1, e = .returned (.slice A1 (swL l out inn).length c1) ∧
      OwnN w' w.heap.size A1 (swL l out inn).length c1 (swL l out inn) ∧ Below w.heap.size w w' := by
  go_enter Try.func36, Try.ntmps36
  go_wp2
  go_loopw [7, 8, 9] (fun s d i wr => ∃ k A' c' X D, k ≤ n ∧ i = .int .i64 ((k : Nat) : Int) ∧ s = .slice A' X.length c' ∧ d = .bool D ∧ swF out inn (l.take k) = (X, D) ∧ OwnN wr w.heap.size A' X.length c' X ∧ X.length ≤ 2 * k ∧ Below w.heap.size w wr) (fun _ _ i _ => n - (intOf i).toNat)
  case atStart => exact ⟨0, none, 0, [], false, Nat.zero_le _, rfl, rfl, rfl, rfl, OwnN.none_ _ _, Nat.zero_le _, Below.refl _ _⟩
  case round =>
    obtain ⟨k, A', c', X, D, hk, rfl, rfl, rfl, hF, hoX, hX, hbe⟩ := hrel
    have HF := Lib.hid hF
    clear hF
    have hz := hbe.size
    by_cases hkn : k < n
    · have hkl : k < l.length := by rw [hl.1]; exact hkn
      have HS := Lib.hid (swF_succ out inn l k hkl)
      obtain ⟨b1, o1, rfl, hb1, h1⟩ := hl.at_ hkn
      have HC : Hid (∀ wx, Below w.heap.size w wx → wx.cell? ⟨b1, o1 + k, none⟩ = some (.int .i64 ((nat_ l k : Nat) : Int))) := fun wx hb => (hb.cell hb1).trans h1
      clear h1
      have h1 := HC.out _ hbe
      generalize nat_ l k = x at *
      have body : ∀ (d : Bool) (Y : List Nat), swS out inn (X, D) x = (Y, d) → swF out inn (l.take (k + 1)) = (Y, d) := fun d Y h => by rw [HS.out, HF.out]; exact h
      have HBd := Lib.hid body
      clear body
      cases D
      · by_cases hix : inn < x
        · have hd1 : decide (inn < x) = true := by simpa using hix
          by_cases hxo : x = out
          · have hd2 : ((x : Int) != (out : Int)) = false := by simp [hxo]
            have HX : Hid (x = out ∧ inn < x) := ⟨hxo, hix⟩
            clear hxo hix
            go_wp2_with ((with_reducible show Go.wpList _ _ _ ({ dst := some 29, op := _, type := _, pos := _, after := _, guard := _ } :: _) _ _); refine wpList_push_n (v := inn) hoX rfl _ _ rfl rfl rfl (by omega) hz ?_; intro A2 c2 w2 ho2 hb2 hg2; have h2 := HC.out _ (hbe.trans hb2))
            exact ⟨⟨k + 1, A2, c2, X ++ [inn], true, by omega, by go_num, by simp, rfl, HBd.out _ _ (by simp [swS, HX.out.1 ▸ HX.out.2, HX.out.1]), by simpa using ho2, by simp; omega, hbe.trans hb2⟩, by simp [intOf]; omega⟩
          · have hd2 : ((x : Int) != (out : Int)) = true := by simp; omega
            have HX : Hid (x ≠ out ∧ inn < x) := ⟨hxo, hix⟩
            clear hxo hix
            go_wp2_with (first | ((with_reducible show Go.wpList _ _ _ ({ dst := some 29, op := _, type := _, pos := _, after := _, guard := _ } :: _) _ _); refine wpList_push_n (v := inn) hoX rfl _ _ rfl rfl rfl (by omega) hz ?_; intro A2 c2 w2 ho2 hb2 hg2; have h2 := HC.out _ (hbe.trans hb2); have hz2 := hb2.size) | ((with_reducible show Go.wpList _ _ _ ({ dst := some 42, op := _, type := _, pos := _, after := _, guard := _ } :: _) _ _); refine wpList_push_n (v := x) ho2 rfl _ _ rfl rfl rfl (by omega) (by omega) ?_; intro A3 c3 w3 ho3 hb3 hg3))
            exact ⟨⟨k + 1, A3, c3, X ++ [inn] ++ [x], true, by omega, by go_num, by simp, rfl, HBd.out _ _ (by simp [swS, HX.out.1, HX.out.2]), by simpa using ho3, by simp; omega, (hbe.trans hb2).trans hb3⟩, by simp [intOf]; omega⟩
        · have hd1 : decide (inn < x) = false := by simpa using hix
          by_cases hxo : x = out
          · have hd2 : ((x : Int) != (out : Int)) = false := by simp [hxo]
            have HX : Hid (x = out ∧ ¬ inn < x) := ⟨hxo, hix⟩
            clear hxo hix
            go_wp2
            exact ⟨⟨k + 1, A', c', X, false, by omega, by go_num, rfl, rfl, HBd.out _ _ (by simp [swS, HX.out.1 ▸ HX.out.2, HX.out.1]), hoX, by omega, hbe⟩, by simp [intOf]; omega⟩
          · have hd2 : ((x : Int) != (out : Int)) = true := by simp; omega
            have HX : Hid (x ≠ out ∧ ¬ inn < x) := ⟨hxo, hix⟩
            clear hxo hix
            go_wp2_with ((with_reducible show Go.wpList _ _ _ ({ dst := some 42, op := _, type := _, pos := _, after := _, guard := _ } :: _) _ _); refine wpList_push_n (v := x) hoX rfl _ _ rfl rfl rfl (by omega) (by omega) ?_; intro A3 c3 w3 ho3 hb3 hg3)
            exact ⟨⟨k + 1, A3, c3, X ++ [x], false, by omega, by go_num, by simp, rfl, HBd.out _ _ (by simp [swS, HX.out.1, HX.out.2]), by simpa using ho3, by simp; omega, hbe.trans hb3⟩, by simp [intOf]; omega⟩
      · by_cases hxo : x = out
        · have hd2 : ((x : Int) != (out : Int)) = false := by simp [hxo]
          have HX : Hid (x = out) := hxo
          clear hxo
          go_wp2
          exact ⟨⟨k + 1, A', c', X, true, by omega, by go_num, rfl, rfl, HBd.out _ _ (by simp [swS, HX.out]), hoX, by omega, hbe⟩, by simp [intOf]; omega⟩
        · have hd2 : ((x : Int) != (out : Int)) = true := by simp; omega
          have HX : Hid (x ≠ out) := hxo
          clear hxo
          go_wp2_with ((with_reducible show Go.wpList _ _ _ ({ dst := some 42, op := _, type := _, pos := _, after := _, guard := _ } :: _) _ _); refine wpList_push_n (v := x) hoX rfl _ _ rfl rfl rfl (by omega) (by omega) ?_; intro A3 c3 w3 ho3 hb3 hg3)
          exact ⟨⟨k + 1, A3, c3, X ++ [x], true, by omega, by go_num, by simp, rfl, HBd.out _ _ (by simp [swS, HX.out]), by simpa using ho3, by simp; omega, hbe.trans hb3⟩, by simp [intOf]; omega⟩
    · obtain rfl : k = n := by omega
      have hFk := HF.out
      rw [List.take_of_length_le (by rw [hl.1]; exact Nat.le_refl _)] at hFk
      have HL := Lib.hid (show swL l out inn = if (X, D).2 then (X, D).1 else (X, D).1 ++ [inn] by unfold swL; rw [hFk])
      clear hFk HF
      cases D
      · go_wp2_with ((with_reducible show Go.wpList _ _ _ ({ dst := some 48, op := _, type := _, pos := _, after := _, guard := _ } :: _) _ _); refine wpList_push_n (v := inn) hoX rfl _ _ rfl rfl rfl (by omega) (by omega) ?_; intro A3 c3 w3 ho3 hb3 hg3)
        go_ret
        have hl2 := HL.out
        simp only [Bool.false_eq_true, if_false] at hl2
        rw [hl2]
        exact ⟨A3, c3, ret_slice (by simp), by simpa using ho3, hbe.trans hb3⟩
      · go_wp2
        go_ret
        have hl2 := HL.out
        simp only [if_true] at hl2
        rw [hl2]
        exact ⟨A', c', rfl, hoX, hbe⟩


set_option maxHeartbeats 1000000 in
theorem RNarrow_c (n : Nat) (A : Option Addr) (m c : Nat) (es : List Ed) (u v : Nat) (w : World) (he : RdE w A m es) (hnet : Net n es) (hu : u < n) (hv : v < n) :
    Calls Try.prog 29 #[.int .i64 (n : Int), .slice A m c, .int .i64 (u : Int), .int .i64 (v : Int)] w fun e w' => e = .returned (.tuple #[.int .i64 (someI (rnar n es u v)), .bool (rnar n es u v).isSome]) ∧ Below w.heap.size w w' := by
  have hm : m ≤ 60 := by have := hnet.len; rw [he.len] at this; exact this
  have hn16 := hnet.n16
  by_cases huv : u = v
  · have hd : ((u : Int) == (v : Int)) = true := by simp [huv]
    have HU := Lib.hid huv
    clear huv
    go_enter Try.func29, Try.ntmps29
    go_wp2
    go_ret2
    exact ⟨by unfold rnar; rw [if_pos HU.out]; rfl, Below.refl _ _⟩
  · have hd : ((u : Int) == (v : Int)) = false := by simp; omega
    have HR := Lib.hid (show rnar n es u v = rnarGo es u v (ordL es) (List.range n) by unfold rnar; rw [if_neg huv])
    clear huv
    go_enter Try.func29, Try.ntmps29
    go_wp2_with (first | (go_at_call 46; refine (start_c n w (by omega)).mono ?_; rintro e w1 ⟨A1, c1, rfl, ho1, hb1⟩) | (go_at_call 47; refine (Order_c A m c es _ (he.below hb1) (by omega)).mono ?_; rintro e w2 ⟨A2, c2, rfl, ho2, hb2⟩))
    have hbb := hb1.trans (hb2.mono hb1.size)
    have he2 := he.below hbb
    have hg2 : RdN w2 A1 n (List.range n) := ho1.rd.below hb2
    have ho3 := ho2.rd
    clear ho1 ho2 he hb1 hb2
    go_loopw [10, 12] (fun g i wr => ∃ k Ag cg G, k ≤ m ∧ i = .int .i64 ((k : Nat) : Int) ∧ g = .slice Ag n cg ∧ RdN wr Ag n G ∧ (∀ x ∈ G, x < n) ∧ rnarGo es u v ((ordL es).drop k) G = rnar n es u v ∧ Below w2.heap.size w2 wr) (fun _ i _ => m - (intOf i).toNat)
    case atStart => exact ⟨0, A1, c1, _, Nat.zero_le _, rfl, rfl, hg2, fun x hx => by simpa using hx, by rw [HR.out]; rfl, Below.refl _ _⟩
    case round =>
      obtain ⟨k, Ag, cg, G, hk, rfl, rfl, hG, hGn, hgo, hbe⟩ := hrel
      by_cases hkm : k < m
      · have hkl : k < (ordL es).length := by rw [ho3.1]; exact hkm
        obtain ⟨b1, o1, rfl, _, h1⟩ := (ho3.below hbe).at_ hkm
        have hp : nat_ (ordL es) k < m := by have := (ordL_mem es _).1 (nat_mem hkl); rw [he2.len] at this; exact this
        rw [drop_nat hkl] at hgo
        generalize nat_ (ordL es) k = p at *
        obtain ⟨b2, o2, rfl, hb2, h2, h3, h4⟩ := (he2.below hbe).at_ hp
        have hpe := hnet.ends _ (ed_mem (by rw [he2.len]; exact hp))
        have HGO := Lib.hid hgo
        clear hgo
        go_wp2_with fail
        have hx := below_one' wr (.cells #[.int .i64 (ed_ es p).a, .int .i64 (ed_ es p).b, .int .i64 (ew es p)] 42)
        have hs4 : (wr.alloc (.cells #[.int .i64 (ed_ es p).a, .int .i64 (ed_ es p).b, .int .i64 (ew es p)] 42)).cell? ⟨wr.heap.size, 2, none⟩ = some (.int .i64 (ew es p)) := by rw [World.cell?_alloc_at _ _ _ _ rfl]; rfl
        have hsz : wr.heap.size < (wr.alloc (.cells #[.int .i64 (ed_ es p).a, .int .i64 (ed_ es p).b, .int .i64 (ew es p)] 42)).heap.size := by simp
        generalize World.alloc wr _ = wx at hx hs4 hsz ⊢
        have hGx := hG.below hx
        have hbx := hbe.trans (hx.mono hbe.size)
        refine (rjoin_c _ n cg G _ _ wx hGx (by omega) hpe.1 hpe.2.1 (fun i => by have := nat_lt_of hGn (by omega) i; omega)).mono ?_
        rintro e w3 ⟨A3, c3, rfl, ho3', hb3⟩
        have hs5 : w3.cell? ⟨wr.heap.size, 2, none⟩ = some (.int .i64 (ew es p)) := (hb3.cell hsz).trans hs4
        obtain ⟨b3, o3, rfl, _, h5⟩ := ho3'.rd.at_ hu
        obtain ⟨_, _, e, _, h6⟩ := ho3'.rd.at_ hv
        injection e with e; injection e with e1 e2; subst e1 e2
        have hrd := ho3'.rd
        have hJn := joinL_lt hGn (by omega) (ed_ es p).a (ed_ es p).b
        have hb3' := hbx.trans (hb3.mono hbx.size)
        have HR2 := Lib.hid (show rnarGo es u v (p :: (ordL es).drop (k + 1)) G = if nat_ (joinL G (ed_ es p).a (ed_ es p).b) u = nat_ (joinL G (ed_ es p).a (ed_ es p).b) v then some (ew es p) else rnarGo es u v ((ordL es).drop (k + 1)) (joinL G (ed_ es p).a (ed_ es p).b) from rfl)
        generalize joinL G (ed_ es p).a (ed_ es p).b = J at *
        clear h1 h2 h3 h4 hs4 hx hbe hG hsz ho3' hGx
        by_cases huv : nat_ J u = nat_ J v
        · have hd : (((nat_ J u : Nat) : Int) == ((nat_ J v : Nat) : Int)) = true := by simp; omega
          have HUV := Lib.hid huv
          clear huv
          go_wp2
          go_quiet (fail)
          go_wp2
          go_ret2
          refine ⟨?_, hbb.trans ((drewN_below hb3' _).mono hbb.size)⟩
          rw [← HGO.out, HR2.out, if_pos HUV.out]
          rfl
        · have hd : (((nat_ J u : Nat) : Int) == ((nat_ J v : Nat) : Int)) = false := by simp; omega
          have HUV := Lib.hid huv
          clear huv
          go_wp2
          go_quiet (fail)
          go_wp2
          exact ⟨⟨k + 1, _, c3, J, by omega, by go_num, rfl, hrd.below (below_q _ _), hJn, by rw [← HGO.out, HR2.out, if_neg HUV.out], drewN_below hb3' _⟩, by simp [intOf]; omega⟩
      · obtain rfl : k = m := by omega
        have HN := Lib.hid (show rnar n es u v = none by rw [← hgo, List.drop_of_length_le (by rw [ho3.1]; exact Nat.le_refl _)]; rfl)
        clear hgo
        go_wp2
        go_ret2
        exact ⟨by rw [HN.out]; rfl, hbb.trans (hbe.mono hbb.size)⟩

end Go.Proofs.Ytpfbichomgojoaa
