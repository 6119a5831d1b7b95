/- Walk: awake. -/
import Derived.Test.YtpfbichomgojoaaH1
import Derived.Test.YtpfbichomgojoaaQO
namespace Go.Proofs.Ytpfbichomgojoaa
open Go.RowKit

def E4 : List Ed := [⟨0, 1, 1⟩, ⟨1, 2, 2⟩, ⟨2, 3, 3⟩, ⟨3, 0, 4⟩]
def E3 : List Ed := [⟨0, 1, 0⟩, ⟨1, 2, 0⟩, ⟨2, 0, 0⟩]
theorem net4 : Net 4 E4 := ⟨by decide, by decide, by decide, by decide⟩
theorem net3 : Net 3 E3 := ⟨by decide, by decide, by decide, by decide⟩
theorem ok4 : okP 4 E4 = true := by decide
theorem ok3 : okP 3 E3 = true := by decide
theorem tree4 : treeP 4 E4 = [0, 1, 2] := by decide
theorem srt4 : srtN (treeP 4 E4) = [0, 1, 2] := by
  rw [tree4]
  unfold srtN
  exact List.mergeSort_of_pairwise (by decide)
theorem slk4 : slkP 4 E4 = [3, 2, 1, 1] := by decide
theorem mor4 : morP 4 E4 = 1 := by decide
theorem first3 : firstOk 3 E3 = true := by decide
theorem cnt3 : cntP 3 E3 = 3 := by
  rw [cntP_eq net3 first3, ← lvF_prod net3 first3, lvF_gap (a := 1) (by omega) (by decide)]
  decide
theorem cells_list (w : World) (vs : List Value) (e : TypeId) : Cells (w.alloc (.cells vs.toArray e)) (some ⟨w.heap.size, 0, none⟩) vs := by
  intro j hj
  refine ⟨_, _, rfl, ?_⟩
  rw [World.cell?_alloc_at _ _ _ _ rfl]; simp

set_option maxHeartbeats 2000000 in
set_option maxRecDepth 100000 in
theorem awake_c (w : World) : Calls Try.prog 18 #[] w fun e w' => e = .returned (.bool true) ∧ Below w.heap.size w w' := by
  have HT := Lib.hid (fun A W h => Tree_c 4 A 4 4 E4 W h net4 ok4)
  have HS := Lib.hid (fun A W h => Slack_c 4 A 4 4 E4 W h net4 ok4)
  have H2 := Lib.hid (fun A W h => Second_c 4 A 4 4 E4 W h net4 ok4 (by rw [tree4]; decide))
  have HC := Lib.hid (fun A W h => Count_c 3 A 3 3 E3 W h net3 ok3)
  rw [srt4] at HT
  rw [slk4] at HS
  rw [tree4, mor4] at H2
  rw [cnt3] at HC
  go_enter Try.func18, Try.ntmps18
  go_wp2_with fail
  generalize hW : World.alloc w _ = w1
  have hb1 : Below w.heap.size w w1 := by rw [← hW]; exact below_one' w _
  have hE1 : RdE w1 (some ⟨w.heap.size, 0, none⟩) 4 E4 := by rw [← hW]; exact ⟨rfl, cells_list w (sv (E4.map Ed.st)) 42⟩
  clear hW
  refine (HT.out _ w1 hE1).mono ?_
  rintro e w2 ⟨A2, c2, rfl, ho2, hb2⟩
  have hE2 := hE1.below hb2
  have ht2 := RdI.of_n ho2.rd
  have hbb2 := hb1.trans (hb2.mono hb1.size)
  have hw6 : ((wsum E4 [0, 1, 2] : Nat) : Int) = 6 := by decide
  have hw7 : (6 : Int) + 1 = 7 := rfl
  have hl3 : ([0, 1, 2] : List Nat).length = 3 := rfl
  rw [hw6, hl3]
  go_wp2_with fail
  refine (HS.out _ w2 hE2).mono ?_
  rintro e w3 ⟨A3, c3, rfl, ho3, hb3⟩
  have hE3 := hE2.below hb3
  have hbb3 := hbb2.trans (hb3.mono hbb2.size)
  have ht3 := ht2.below hb3
  go_wp2_with fail
  refine (H2.out _ w3 hE3).mono ?_
  rintro e w4 ⟨rfl, hb4⟩
  have hbb4 := hbb3.trans (hb4.mono hbb3.size)
  have ht4 := ht3.below hb4
  have ho4 := ho3.rd.below hb4
  rw [hw6, hw7]
  go_wp2_with fail
  generalize hW : World.alloc w4 _ = w5
  have hb5 : Below w4.heap.size w4 w5 := by rw [← hW]; exact below_one' w4 _
  have hE5 : RdE w5 (some ⟨w4.heap.size, 0, none⟩) 3 E3 := by rw [← hW]; exact ⟨rfl, cells_list w4 (sv (E3.map Ed.st)) 42⟩
  clear hW
  refine (HC.out _ w5 hE5).mono ?_
  rintro e w6 ⟨rfl, hb6⟩
  have hb46 := hb5.trans (hb6.mono hb5.size)
  have hbb6 := hbb4.trans (hb46.mono hbb4.size)
  have ht6 := ht4.below hb46
  have ho6 := ho4.below hb46
  go_wp2_with fail
  generalize hW : World.alloc w6 _ = w7
  have hb7 : Below w6.heap.size w6 w7 := by rw [← hW]; exact below_one' w6 _
  have hx7 : RdI w7 (some ⟨w6.heap.size, 0, none⟩) 3 [0, 1, 2] := by rw [← hW]; exact ⟨rfl, cells_list w6 (iv [0, 1, 2]) 3⟩
  clear hW
  refine (ints_c _ _ _ _ _ _ _ _ w7 (ht6.below hb7) hx7 (by simp) (by omega)).mono ?_
  rintro e w8 ⟨rfl, hb8⟩
  have hd8 : decide (([0, 1, 2] : List Nat).map (fun x : Nat => (x : Int)) = [0, 1, 2]) = true := by decide
  rw [hd8]
  have hb68 := hb7.trans (hb8.mono hb7.size)
  have hbb8 := hbb6.trans (hb68.mono hbb6.size)
  go_wp2_with fail
  generalize hW : World.alloc w8 _ = w9
  have hb9 : Below w8.heap.size w8 w9 := by rw [← hW]; exact below_one' w8 _
  have hx9 : RdI w9 (some ⟨w8.heap.size, 0, none⟩) 4 [3, 2, 1, 1] := by rw [← hW]; exact ⟨rfl, cells_list w8 (iv [3, 2, 1, 1]) 3⟩
  clear hW
  refine (ints_c _ _ _ _ _ _ _ _ w9 ((ho6.below hb68).below hb9) hx9 (by omega) (by omega)).mono ?_
  rintro e w10 ⟨rfl, hb10⟩
  have hd10 : decide (([3, 2, 1, 1] : List Int) = [3, 2, 1, 1]) = true := by decide
  rw [hd10]
  have hb810 := hb9.trans (hb10.mono hb9.size)
  have hbb10 := hbb8.trans (hb810.mono hbb8.size)
  go_wp2
  go_ret
  exact ⟨rfl, hbb10⟩

end Go.Proofs.Ytpfbichomgojoaa
