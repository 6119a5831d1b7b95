/- Walks of the reference: Critical. -/
import Derived.Test.YtpfbichomgojoaaW5
namespace Go.Proofs.Ytpfbichomgojoaa
open Go.RowKit

def crA (n : Nat) (es : List Ed) (i : Nat) : Bool := hasN (firstL n es) i && decide (int_ (slkR n es) i ≠ 0)
def crN (n : Nat) (es : List Ed) (i : Nat) : Bool := !hasN (firstL n es) i && decide (0 < int_ (slkR n es) i)
def critA (n : Nat) (es : List Ed) : List Nat := (List.range es.length).filter (crA n es)
def critN (n : Nat) (es : List Ed) : List Nat := (List.range es.length).filter (crN n es)

set_option maxHeartbeats 1000000 in
theorem RCritical_c (n : Nat) (A : Option Addr) (m c : Nat) (es : List Ed) (w : World) (he : RdE w A m es) (hnet : Net n es) :
    Calls Try.prog 31 #[.int .i64 (n : Int), .slice A m c] w fun e w' => ∃ A1 c1 A2 c2, e = .returned (.tuple #[.slice A1 (critA n es).length c1, .slice A2 (critN n es).length c2]) ∧
      RdN w' A1 (critA n es).length (critA n es) ∧ RdN w' A2 (critN n es).length (critN n es) ∧ Below w.heap.size w w' := by
  have hm : m ≤ 60 := by have := hnet.len; rw [he.len] at this; exact this
  have hle : (firstL n es).length ≤ m := by rw [← he.len]; exact takL_length_le n es _
  have hSl : (slkR n es).length = m := by unfold slkR; simp [he.len]
  have HA : Hid (critA n es = (List.range m).filter (crA n es)) := by unfold critA; rw [he.len]; exact rfl
  have HN : Hid (critN n es = (List.range m).filter (crN n es)) := by unfold critN; rw [he.len]; exact rfl
  have HCA : Hid (∀ i, crA n es i = (hasN (firstL n es) i && decide (int_ (slkR n es) i ≠ 0))) := fun _ => rfl
  have HCN : Hid (∀ i, crN n es i = (!hasN (firstL n es) i && decide (0 < int_ (slkR n es) i))) := fun _ => rfl
  go_enter Try.func31, Try.ntmps31
  go_wp2_with fail
  refine (First_c n A m c es w he hnet).mono ?_
  rintro e w1 ⟨A1, c1, rfl, ho1, hb1⟩
  go_wp2_with fail
  refine (RSlack_c n A m c es w1 (he.below hb1) hnet).mono ?_
  rintro e w2 ⟨A2, c2, rfl, ho2, hb2⟩
  have hT := ho1.rd.below hb2
  have hS := ho2.rd
  have hbb := hb1.trans (hb2.mono hb1.size)
  clear ho1 ho2 hb1 hb2
  generalize firstL n es = T at *
  generalize slkR n es = S at *
  generalize hCA : crA n es = pA at *
  generalize hCN : crN n es = pN at *
  clear hCA hCN
  go_wp2
  go_loopw [9, 10, 11] (fun s t i wr => ∃ k A3 c3 A4 c4, k ≤ m ∧ i = .int .i64 ((k : Nat) : Int) ∧ s = .slice A3 ((List.range k).filter pA).length c3 ∧ t = .slice A4 ((List.range k).filter pN).length c4 ∧
    OwnN wr w2.heap.size A3 ((List.range k).filter pA).length c3 ((List.range k).filter pA) ∧ OwnN wr w2.heap.size A4 ((List.range k).filter pN).length c4 ((List.range k).filter pN) ∧ Dj A3 A4 ∧ Below w2.heap.size w2 wr) (fun _ _ i _ => m - (intOf i).toNat)
  case atStart => exact ⟨0, none, 0, none, 0, Nat.zero_le _, rfl, rfl, rfl, OwnN.none_ _ _, OwnN.none_ _ _, Dj.none_ _, Below.refl _ _⟩
  case round =>
    obtain ⟨k, A3, c3, A4, c4, hk, rfl, rfl, rfl, ho3, ho4, hdj, hbe⟩ := hrel
    have hl1 := List.length_filter_le pA (List.range k)
    have hl2 := List.length_filter_le pN (List.range k)
    rw [List.length_range] at hl1 hl2
    by_cases hkm : k < m
    · have HF1 := Lib.hid (filter_range_succ pA k)
      have HF2 := Lib.hid (filter_range_succ pN k)
      have HPA := Lib.hid (HCA.out k)
      have HPN := Lib.hid (HCN.out k)
      generalize (List.range k).filter pA = X at *
      generalize (List.range k).filter pN = Y at *
      have hz := hbe.size
      obtain ⟨b1, o1, rfl, hb1, h1⟩ := hS.at_ hkm
      have HC : Hid (∀ wx, Below w2.heap.size w2 wx → wx.cell? ⟨b1, o1 + k, none⟩ = some (.int .i64 (int_ S k))) := fun wx hb => (hb.cell hb1).trans h1
      clear h1
      have h1 := HC.out _ hbe
      go_wp2_with fail
      refine (has_n A1 T.length c1 T k wr (hT.below hbe) (by omega)).mono ?_
      rintro e w3 ⟨rfl, rfl⟩
      cases hh : hasN T k
      · have HH := Lib.hid hh
        clear hh
        go_wp2_with fail
        refine (has_n A1 T.length c1 T k wr (hT.below hbe) (by omega)).mono ?_
        rintro e w3 ⟨rfl, rfl⟩
        rw [HH.out]
        by_cases hp : 0 < int_ S k
        · have hd : decide (0 < int_ S k) = true := by simpa using hp
          have HP := Lib.hid hd
          go_wp2_with ((with_reducible show Go.wpList _ _ _ ({ dst := some 55, op := _, type := _, pos := _, after := _, guard := _ } :: _) _ _); refine wpList_push_n (v := k) ho4 rfl _ _ rfl rfl rfl (by omega) hz ?_; intro A5 c5 w5 ho5 hb5 hg5)
          refine ⟨⟨k + 1, A3, c3, A5, c5, by omega, by go_num, ?_, ?_, ?_, ?_, (hdj.symm.push hg5 ho3).symm, hbe.trans hb5⟩, by simp [intOf]; omega⟩
          · rw [HF1.out, HPA.out, HH.out]; simp
          · rw [HF2.out, HPN.out, HH.out, HP.out]; simp
          · rw [HF1.out, HPA.out, HH.out]; simpa using (show OwnN w5 w2.heap.size A3 X.length c3 X from own_grew ho3 hg5 (fun k h1 h2 => hdj k h1 h2))
          · rw [HF2.out, HPN.out, HH.out, HP.out]; simpa using ho5
        · have hd : decide (0 < int_ S k) = false := by simpa using hp
          have HP := Lib.hid hd
          go_wp2
          refine ⟨⟨k + 1, A3, c3, A4, c4, by omega, by go_num, ?_, ?_, ?_, ?_, hdj, hbe⟩, by simp [intOf]; omega⟩
          · rw [HF1.out, HPA.out, HH.out]; simp
          · rw [HF2.out, HPN.out, HH.out, HP.out]; simp
          · rw [HF1.out, HPA.out, HH.out]; simpa using ho3
          · rw [HF2.out, HPN.out, HH.out, HP.out]; simpa using ho4
      · have HH := Lib.hid hh
        clear hh
        have HT9 : Hid (∀ wx, Below w2.heap.size w2 wx → RdN wx A1 T.length T) := fun wx hb => hT.below hb
        by_cases hp : int_ S k = 0
        · have hd : (int_ S k != 0) = false := by simp [hp]
          have HP := Lib.hid (show decide (int_ S k ≠ 0) = false by simp [hp])
          clear hp
          go_wp2_with fail
          refine (has_n A1 T.length c1 T k wr (hT.below hbe) (by omega)).mono ?_
          rintro e w3 ⟨rfl, rfl⟩
          rw [HH.out]
          go_wp2
          refine ⟨⟨k + 1, A3, c3, A4, c4, by omega, by go_num, ?_, ?_, ?_, ?_, hdj, hbe⟩, by simp [intOf]; omega⟩
          · rw [HF1.out, HPA.out, HH.out, HP.out]; simp
          · rw [HF2.out, HPN.out, HH.out]; simp
          · rw [HF1.out, HPA.out, HH.out, HP.out]; simpa using ho3
          · rw [HF2.out, HPN.out, HH.out]; simpa using ho4
        · have hd : (int_ S k != 0) = true := by simpa using hp
          have HP := Lib.hid (show decide (int_ S k ≠ 0) = true by simpa using hp)
          clear hp
          go_wp2_with (first | ((with_reducible show Go.wpList _ _ _ ({ dst := some 40, op := _, type := _, pos := _, after := _, guard := _ } :: _) _ _); refine wpList_push_n (v := k) ho3 rfl _ _ rfl rfl rfl (by omega) hz ?_; intro A5 c5 w5 ho5 hb5 hg5) | (go_at_call 51; refine (has_n A1 T.length c1 T k w5 (HT9.out _ (hbe.trans hb5)) (by omega)).mono ?_; rintro e w3 ⟨rfl, rfl⟩; rw [HH.out]))
          refine ⟨⟨k + 1, A5, c5, A4, c4, by omega, by go_num, ?_, ?_, ?_, ?_, hdj.push hg5 ho4, hbe.trans hb5⟩, by simp [intOf]; omega⟩
          · rw [HF1.out, HPA.out, HH.out, HP.out]; simp
          · rw [HF2.out, HPN.out, HH.out]; simp
          · rw [HF1.out, HPA.out, HH.out, HP.out]; simpa using ho5
          · rw [HF2.out, HPN.out, HH.out]; simpa using (show OwnN w5 w2.heap.size A4 Y.length c4 Y from own_grew ho4 hg5 (fun k h1 h2 => hdj k h2 h1))
    · obtain rfl : k = m := by omega
      go_wp2
      go_ret2
      rw [HA.out, HN.out]
      exact ⟨A3, c3, A4, c4, rfl, ho3.rd, ho4.rd, hbb.trans (hbe.mono hbb.size)⟩

end Go.Proofs.Ytpfbichomgojoaa
