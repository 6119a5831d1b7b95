/- Walks: slices.Sort on a row of one's own, Tree. -/
import Derived.Test.YtpfbichomgojoaaP8
namespace Go.Proofs.Ytpfbichomgojoaa
open Go.RowKit

theorem own_put {α : Type} [Inhabited α] (enc : α → Value) {w : World} {B g n c e q : Nat} {vs : List Value} (h : w.ownsRow B e 1 (.slice (some ⟨g, 0, none⟩) n c) n vs) (d : Array α) (hd : d.size = n) (os : Array Obj) :
    (Go.Sort.grow (Go.Sort.putRow enc (Go.Sort.ahead w q) g 0 d) os).ownsRow B e 1 (.slice (some ⟨g, 0, none⟩) n c) n (d.toList.map enc) := by
  rcases h.2 with ⟨hv, _⟩ | ⟨g', cap, cur, hv, hg, hh, h1, h2, h3, h4⟩
  · cases hv
  · injection hv with e1 e2 e3
    injection e1 with e1
    injection e1 with e1 e4
    subst e1 e3
    have hlt : g < w.heap.size := by
      rcases Nat.lt_or_ge g w.heap.size with h | h
      · exact h
      · rw [Array.getElem?_eq_none h] at hh; cases hh
    refine ⟨by simp [hd], .inr ⟨g, c, Go.Sort.putCells enc 0 d cur, rfl, hg, ?_, h1, h2, by simp [Go.Sort.putCells, h3], ?_⟩⟩
    · rw [Go.Sort.heap_grow_old _ _ (by simp [Go.Sort.putRow, Go.Sort.mapBlock, Go.Sort.ahead]; exact hlt)]
      simp only [Go.Sort.putRow, Go.Sort.mapBlock, Go.Sort.ahead, Array.getElem?_modify, if_true, hh]
      rfl
    · apply List.ext_getElem?
      intro k
      rw [List.getElem?_take]
      by_cases hk : k < n
      · rw [if_pos (by omega), Array.getElem?_toList]
        simp only [Go.Sort.putCells, Array.getElem?_mapIdx]
        rw [Array.getElem?_eq_getElem (by omega), Option.map_some, if_pos (by omega)]
        simp [hd, hk, getElem!_pos d k (by omega)]
      · rw [if_neg (by omega), List.getElem?_eq_none (by simp [hd]; omega)]

theorem below_put {α : Type} [Inhabited α] (enc : α → Value) (w : World) {blk : Nat} (off m : Nat) (dk : Array α) (os : Array Obj) {B : Nat} (h1 : B ≤ blk) (h2 : blk < w.heap.size) :
    Below B w (Go.Sort.grow (Go.Sort.putRow enc (Go.Sort.ahead w m) blk off dk) os) := below_sortWorld enc w off m dk os h1 h2

theorem srt_int (xs : List Nat) : (xs.map (fun x : Nat => (x : Int))).mergeSort (fun x y => decide (x ≤ y)) = (srtN xs).map (fun x : Nat => (x : Int)) := by
  unfold srtN
  refine (List.map_mergeSort (fun a _ b _ => ?_)).symm
  simp

theorem Sort_c (B : Nat) (A : Option Addr) (n c : Nat) (xs : List Nat) (w : World) (ho : OwnN w B A n c xs) (hn : n ≤ 1000) :
    Calls Try.prog 41 #[.slice A n c] w fun e w' => e = .returned (.tuple #[]) ∧ OwnN w' B A n c (srtN xs) ∧ Below B w w' := by
  have hl := ho.len
  rcases Nat.eq_zero_or_pos n with h0 | hpos
  · subst h0
    refine (Try.slices_Sort_int_none A c w).mono ?_
    rintro e w' ⟨rfl, rfl⟩
    have : xs = [] := List.eq_nil_of_length_eq_zero hl
    subst this
    exact ⟨rfl, by rw [show srtN [] = [] from by simp [srtN]]; exact ho, Below.refl _ _⟩
  · obtain ⟨g, hA, hg1, hg2, _⟩ := own_at ho (nv_get _ 0 (by omega))
    subst hA
    have hH : Go.Sort.Holds (Value.int .i64) w g 0 (xs.map (fun x : Nat => (x : Int))).toArray := by
      intro j hj
      have hj' : j < xs.length := by simpa using hj
      obtain ⟨g', e, _, _, h1, h2, _⟩ := own_at ho (nv_get xs j hj')
      injection e with e; injection e with e; subst e
      rw [Nat.zero_add]
      refine ⟨?_, h2⟩
      rw [h1, getElem!_pos _ j hj, nat_get hj']
      simp
    have h := Try.slices_Sort_int g 0 c (xs.map (fun x : Nat => (x : Int))) w hH hg2 (by rw [List.length_map]; omega)
    rw [List.length_map, hl, srt_int] at h
    refine h.mono ?_
    rintro e w' ⟨rfl, q, os, rfl⟩
    have hsz : (((srtN xs).map (fun x : Nat => (x : Int))).toArray).size = n := by simp [srtN_length, hl]
    refine ⟨rfl, ?_, below_put _ _ _ _ _ _ hg1 hg2⟩
    have := own_put (Value.int .i64) (q := q) ho _ hsz os
    unfold OwnN
    rw [nv_iv]
    exact this


set_option maxHeartbeats 1000000 in
theorem Tree_bad (n : Int) (A : Option Addr) (m c : Nat) (ss : List St) (w : World) (hs : RdS w A m ss) (hb : netB n ss = false) :
    Calls Try.prog 14 #[.int .i64 n, .slice A m c] w fun e w' => e = .returned (.tuple #[.slice none 0 0, .int .i64 0, .int .i64 2]) ∧ Below w.heap.size w w' := by
  have HN := Lib.hid (newNet_c n A m c ss w hs)
  rw [hb] at HN
  go_enter Try.func14, Try.ntmps14
  go_wp2_with fail
  refine HN.out.mono ?_
  rintro e w1 ⟨rfl, hb1⟩
  go_wp2
  go_ret3
  exact ⟨rfl, hb1.trans ((below_one' w1 _).mono hb1.size)⟩

theorem two_cells (w : World) (x y : Value) (ty : TypeId) : (w.alloc (.cells #[x, y] ty)).cell? ⟨w.heap.size, 0, none⟩ = some x ∧ (w.alloc (.cells #[x, y] ty)).cell? ⟨w.heap.size, 1, none⟩ = some y := by
  refine ⟨?_, ?_⟩ <;> (rw [World.cell?_alloc_at _ _ _ _ rfl]; rfl)

/-- The program's first tree. -/
def treeP (n : Nat) (es : List Ed) : List Nat := kruT n es (ordL es)
def okP (n : Nat) (es : List Ed) : Bool := decide ((treeP n es).length + 1 = n)
theorem treeP_lt {n : Nat} {es : List Ed} : ∀ x ∈ treeP n es, x < es.length := fun x hx => (ordL_mem es x).1 (kruT_mem hx)
theorem treeP_len (n : Nat) (es : List Ed) : (treeP n es).length ≤ es.length := by
  have := kruT_length_le n es (ordL es)
  rw [ordL_length] at this; exact this

set_option maxHeartbeats 1000000 in
theorem Tree_none (n : Nat) (A : Option Addr) (m c : Nat) (es : List Ed) (w : World) (he : RdE w A m es) (hnet : Net n es) (hb : okP n es = false) :
    Calls Try.prog 14 #[.int .i64 (n : Int), .slice A m c] w fun e w' => e = .returned (.tuple #[.slice none 0 0, .int .i64 0, .int .i64 6]) ∧ Below w.heap.size w w' := by
  have HN := Lib.hid (newNet_c n A m c _ w he)
  rw [net_yes hnet] at HN
  have HT := Lib.hid (fun W h => tree_c n A m c es W h hnet.inN)
  have HB := Lib.hid hb
  clear hb
  unfold netV at HT
  go_enter Try.func14, Try.ntmps14
  go_wp2_with fail
  refine HN.out.mono ?_
  rintro e w1 ⟨rfl, hb1⟩
  have hbA := below_one' w1 (.cells #[.int .i64 (n : Int), .slice A m c] 66)
  obtain ⟨hc0, hc1⟩ := two_cells w1 (.int .i64 (n : Int)) (.slice A m c) 66
  have hb2 := hb1.trans (hbA.mono hb1.size)
  go_wp2_with fail
  refine (HT.out _ (he.below hb2)).mono ?_
  rintro e w3 ⟨A3, c3, rfl, ho3, hb3⟩
  have hbb := hb2.trans (hb3.mono hb2.size)
  have HD : Hid (decide ((kruT n es (ordL es)).length + 1 = n) = false) := HB.out
  generalize decide ((kruT n es (ordL es)).length + 1 = n) = bb at *
  have hbb0 := HD.out
  subst hbb0
  go_wp2
  go_ret3
  exact ⟨rfl, hbb⟩

set_option maxHeartbeats 1000000 in
theorem Tree_c (n : Nat) (A : Option Addr) (m c : Nat) (es : List Ed) (w : World) (he : RdE w A m es) (hnet : Net n es) (hb : okP n es = true) :
    Calls Try.prog 14 #[.int .i64 (n : Int), .slice A m c] w fun e w' => ∃ A1 c1, e = .returned (.tuple #[.slice A1 (srtN (treeP n es)).length c1, .int .i64 ((wsum es (srtN (treeP n es)) : Nat) : Int), .int .i64 0]) ∧
      OwnN w' w.heap.size A1 (srtN (treeP n es)).length c1 (srtN (treeP n es)) ∧ Below w.heap.size w w' := by
  have hel := he.len
  have HN := Lib.hid (newNet_c n A m c _ w he)
  rw [net_yes hnet] at HN
  have HT := Lib.hid (fun W h => tree_c n A m c es W h hnet.inN)
  have HW := Lib.hid (fun W h A3 l c3 h2 h3 h4 => weight_c n A m c es A3 l c3 (srtN (treeP n es)) W h hnet.inN h2 h3 h4)
  have HB := Lib.hid hb
  have hlt : ∀ x ∈ srtN (treeP n es), x < m := fun x hx => by have := treeP_lt x ((srtN_perm _).mem_iff.1 hx); omega
  have hle := treeP_len n es
  have hm := hnet.len
  clear hb
  unfold netV at HT HW
  have hLL := srtN_length (treeP n es)
  go_enter Try.func14, Try.ntmps14
  go_wp2_with fail
  refine HN.out.mono ?_
  rintro e w1 ⟨rfl, hb1⟩
  have hbA := below_one' w1 (.cells #[.int .i64 (n : Int), .slice A m c] 66)
  obtain ⟨hc0, hc1⟩ := two_cells w1 (.int .i64 (n : Int)) (.slice A m c) 66
  have hb2 := hb1.trans (hbA.mono hb1.size)
  go_wp2_with fail
  refine (HT.out _ (he.below hb2)).mono ?_
  rintro e w3 ⟨A3, c3, rfl, ho3, hb3⟩
  have hbb := hb2.trans (hb3.mono hb2.size)
  have HD : Hid (decide ((kruT n es (ordL es)).length + 1 = n) = true) := HB.out
  generalize decide ((kruT n es (ordL es)).length + 1 = n) = bb at *
  have hbb0 := HD.out
  subst hbb0
  have ho3 : OwnN w3 _ A3 (treeP n es).length c3 (treeP n es) := ho3
  have hLK : (kruT n es (ordL es)).length = (treeP n es).length := rfl
  rw [hLK]
  have HLL := Lib.hid hLL
  clear hLL
  generalize (treeP n es).length = L at *
  have hsz := hbb.size
  have hs2 := hb2.size
  have hwz : w1.heap.size < (w1.alloc (.cells #[.int .i64 (n : Int), .slice A m c] 66)).heap.size := by simp
  have hc03 := (hb3.cell (by exact hwz)).trans hc0
  have hc13 := (hb3.cell (by exact hwz)).trans hc1
  go_wp2_with fail
  refine (Sort_c _ A3 _ c3 _ w3 ho3 (by omega)).mono ?_
  rintro e w4 ⟨rfl, ho4, hb4⟩
  have hc04 := (hb4.cell (by exact hwz)).trans hc03
  have hc14 := (hb4.cell (by exact hwz)).trans hc13
  have hbb4 := hbb.trans (hb4.mono hs2)
  go_wp2_with fail
  refine (HW.out w4 (he.below hbb4) A3 L c3 ho4.rd (by omega) hlt).mono ?_
  rintro e w5 ⟨rfl, hb5⟩
  have hbb5 := hbb4.trans (hb5.mono hbb4.size)
  have ho5 := own_below (own_mono ho4 hs2) hb5
  go_wp2
  go_ret3
  rw [HLL.out]
  exact ⟨A3, c3, rfl, ho5, hbb5⟩

end Go.Proofs.Ytpfbichomgojoaa
