/- The program's order: slices.SortFunc by its contract off the shelf. -/
import Derived.Test.YtpfbichomgojoaaP3
import Derived.Test.YtpfbichomgojoaaMO
import Derived.Test.YtpfbichomgojoaaShelf
namespace Go.Proofs.Ytpfbichomgojoaa
open Go.RowKit

theorem cmpI_neg (x y : Int) : cmpI x y < 0 ↔ x < y := by unfold cmpI; split <;> (try split) <;> omega
theorem cmpI_zero (x y : Int) : cmpI x y = 0 ↔ x = y := by unfold cmpI; split <;> (try split) <;> omega
theorem ordC_neg (es : List Ed) (x y : Nat) : ordC es x y < 0 ↔ bef es x y := by
  unfold ordC bef
  simp only [firstNz]
  have h1 := cmpI_neg (ew es x : Nat) (ew es y : Nat)
  have h2 := cmpI_zero (ew es x : Nat) (ew es y : Nat)
  have h3 := cmpI_neg (x : Nat) (y : Nat)
  have h4 := cmpI_zero (x : Nat) (y : Nat)
  split
  · split <;> omega
  · omega

/-- A position of a list of m. -/
abbrev Pos (m : Nat) := {x : Nat // x < m}
def posE {m : Nat} (x : Pos m) : Value := .int .i64 ((x.val : Nat) : Int)
def posC (es : List Ed) {m : Nat} (x y : Pos m) : Int := ordC es x.val y.val
def posA (m : Nat) : List (Pos m) := (List.range m).attach.map fun x => ⟨x.1, List.mem_range.1 x.2⟩
theorem posA_val (m : Nat) : (posA m).map Subtype.val = List.range m := by unfold posA; rw [List.map_map]; exact List.attach_map_subtype_val _
theorem posA_len (m : Nat) : (posA m).length = m := by unfold posA; simp
theorem posLt (es : List Ed) {m : Nat} (x y : Pos m) : Go.Proofs.ltOf (posC es) x y = true ↔ bef es x.val y.val := by
  unfold Go.Proofs.ltOf posC; rw [decide_eq_true_iff]; exact ordC_neg es _ _
/-- A positions' list's first member, for the arrays of the shelf. -/
theorem below_sortWorld {α : Type} [Inhabited α] (enc : α → Value) (w : World) {blk : Nat} (off m : Nat) (dk : Array α) (os : Array Obj) {B : Nat} (h1 : B ≤ blk) (h2 : blk < w.heap.size) : Below B w (sortWorld enc w blk off m dk os) := by
  have e : ∀ k, k < w.heap.size → k ≠ blk → (sortWorld enc w blk off m dk os).heap[k]? = w.heap[k]? := by
    intro k hk hne
    unfold sortWorld
    rw [Go.Sort.heap_grow_old _ _ (by simp [Go.Sort.putRow, Go.Sort.mapBlock, Go.Sort.ahead]; exact hk)]
    simp only [Go.Sort.putRow, Go.Sort.mapBlock, Go.Sort.ahead, Array.getElem?_modify]
    rw [if_neg (Ne.symm hne)]
  exact ⟨rfl, rfl, rfl, by simp [sortWorld, Go.Sort.grow, Go.Sort.putRow, Go.Sort.mapBlock, Go.Sort.ahead], fun k hk => e k (by omega) (by omega)⟩

theorem posSWO (es : List Ed) (m : Nat) : Go.Sort.SWO (Go.Proofs.ltOf (posC es (m := m))) := by
  have h : ∀ x y : Pos m, Go.Proofs.ltOf (posC es) x y = false ↔ ¬ bef es x.val y.val := fun x y => by rw [← posLt, Bool.not_eq_true]
  refine ⟨fun x => (h x x).2 (bef_irr es _), fun x y z h1 h2 => ?_, fun x y z h1 h2 => ?_⟩
  · rw [posLt] at *; exact bef_trans h1 h2
  · rw [h] at *; intro h3; unfold bef at *; omega

theorem pos_sorted (es : List Ed) (m : Nat) (he : es.length = m) :
    (((posA m).toArray.toList.mergeSort fun x y => !(Go.Proofs.ltOf (posC es (m := m))) y x).map Subtype.val) = ordL es := by
  have hle : ∀ x y : Pos m, (!(Go.Proofs.ltOf (posC es)) y x) = true ↔ ¬ bef es y.val x.val := fun x y => by rw [← posLt]; simp
  refine ordL_unique ?_ ?_
  · rw [List.pairwise_map]
    have h1 : ((posA m).mergeSort fun x y => !(Go.Proofs.ltOf (posC es (m := m))) y x).Pairwise (fun x y => (!(Go.Proofs.ltOf (posC es)) y x) = true) :=
      List.pairwise_mergeSort (fun x y z h1 h2 => by rw [hle] at *; unfold bef at *; omega) (fun x y => by
        have := hle x y; have h' := hle y x
        rw [Bool.or_eq_true, this, h']; unfold bef; omega) _
    have h2 : ((posA m).mergeSort fun x y => !(Go.Proofs.ltOf (posC es (m := m))) y x).Nodup := by
      rw [(List.mergeSort_perm _ _).nodup_iff]
      have : ((posA m).map Subtype.val).Nodup := by rw [posA_val]; exact List.nodup_range
      exact (List.pairwise_map.1 this).imp (fun h e => h (congrArg _ e))
    refine (h1.and h2).imp ?_
    rintro x y ⟨h, hne⟩
    rw [hle] at h
    have : x.val ≠ y.val := fun e => hne (Subtype.ext e)
    rcases bef_total es this with h' | h'
    · exact h'
    · exact absurd h' h
  · intro x
    rw [List.mem_map]
    constructor
    · rintro ⟨y, _, rfl⟩; rw [he]; exact y.2
    · intro hx
      refine ⟨⟨x, by omega⟩, (List.mergeSort_perm _ _).mem_iff.2 ?_, rfl⟩
      have : x ∈ (posA m).map Subtype.val := by rw [posA_val]; exact List.mem_range.2 (by omega)
      obtain ⟨y, hy, e⟩ := List.mem_map.1 this
      have : y = ⟨x, by omega⟩ := Subtype.ext e
      rw [← this]; exact hy

theorem posCells {m : Nat} {w : World} {b o : Nat} {d : Array (Pos m)} [Inhabited (Pos m)] (h : Go.Sort.Holds posE w b o d) (xs : List Nat) (hx : d.toList.map Subtype.val = xs) : Cells w (some ⟨b, o, none⟩) (nv xs) := by
  subst hx
  intro j hj
  refine ⟨b, o, rfl, ?_⟩
  have hj' : j < d.size := by simpa [nv] using hj
  rw [(h j hj').1, List.getElem?_eq_getElem hj]
  simp [nv, posE, getElem!_pos d j hj']

theorem sort_ord (tb : Nat) (E : Option Addr) (m ce : Nat) (es : List Ed) (B : Nat) (A : Option Addr) (c : Nat) (w : World) (he : RdE w E m es) (heB : 0 < m → ∀ k, blk E = some k → k < B) (ht : w.cell? ⟨tb, 1, none⟩ = some (.slice E m ce)) (htB : tb < B)
    (ho : OwnN w B A m c (List.range m)) (hm : m ≤ 1000) :
    Calls Try.prog 68 #[.slice A m c, .func (.func 69) #[] #[.pointer (some ⟨tb, 0, none⟩)]] w fun e w' => e = .returned (.tuple #[]) ∧ RdN w' A m (ordL es) ∧ Below B w w' := by
  have hel := he.len
  rcases Nat.eq_zero_or_pos m with h0 | hpos
  · subst h0
    refine (Try.slices_SortFunc_none (α := Nat) A c _ w).mono ?_
    rintro e w' ⟨rfl, rfl⟩
    have : es = [] := List.eq_nil_of_length_eq_zero hel
    subst this
    exact ⟨rfl, ho.rd, Below.refl _ _⟩
  · haveI : Inhabited (Pos m) := ⟨⟨0, hpos⟩⟩
    obtain ⟨g, hA, hg1, hg2, _⟩ := own_at ho (nv_get _ 0 (by simpa using hpos))
    subst hA
    have hsz : (posA m).toArray.size = m := by simp [posA_len]
    have hval : ∀ j, j < m → (posA m).toArray[j]!.val = j := by
      intro j hj
      have h := congrArg (fun l => l[j]?) (posA_val m)
      rw [getElem!_pos _ j (by rw [hsz]; exact hj)]
      simp only [List.getElem?_map, List.getElem?_range hj] at h
      rw [List.getElem?_eq_getElem (by rw [posA_len]; exact hj)] at h
      simpa using h
    have hH : Go.Sort.Holds posE w g 0 (posA m).toArray := by
      intro j hj
      rw [hsz] at hj
      obtain ⟨g', e, _, _, h1, h2, _⟩ := own_at ho (nv_get (List.range m) j (by simpa using hj))
      injection e with e; injection e with e; subst e
      rw [Nat.zero_add]
      refine ⟨?_, h2⟩
      rw [h1]
      unfold posE
      rw [hval j hj, nat_get (by simpa using hj), List.getElem_range]
    have hcmp : CmpLays1 Try.prog 69 #[.pointer (some ⟨tb, 0, none⟩)] posE (posC es (m := m)) g 0 (posA m).toArray.size w := by
      intro q os dk hdk x y
      have hb := below_sortWorld posE w 0 q dk os hg1 hg2
      refine ordered1_c tb E m ce es x.val y.val _ ?_ ((hb.cell htB).trans ht) x.2 y.2
      refine ⟨he.1, fun j hj => ?_⟩
      obtain ⟨b, o, hE, hc⟩ := he.2 j hj
      exact ⟨b, o, hE, (hb.cell (heB hpos b (by rw [hE]; rfl))).trans hc⟩
    have heg : ∀ args w, (callFunc 69 args).run Try.prog w = .ok (.enter 69 args) w := fun args w => by kernel_rfl
    have h := Try.slices_SortFunc_total posE (fun _ => rfl) (posC es (m := m)) (posSWO es m) 69 #[.pointer (some ⟨tb, 0, none⟩)] g 0 c (posA m).toArray w heg hcmp hH hg2 (by rw [hsz]; omega) (fun x y h1 h2 => by
      have h : ∀ x y : Pos m, Go.Proofs.ltOf (posC es) x y = false ↔ ¬ bef es x.val y.val := fun x y => by rw [← posLt, Bool.not_eq_true]
      rw [h] at h1 h2
      apply Subtype.ext
      rcases Nat.lt_trichotomy x.val y.val with hlt | heq | hgt
      · rcases bef_total es (Nat.ne_of_lt hlt) with h | h <;> contradiction
      · exact heq
      · rcases bef_total es (Nat.ne_of_gt hgt) with h | h <;> contradiction)
    rw [hsz] at h
    refine h.mono ?_
    rintro e w' ⟨rfl, q, os, rfl⟩
    have hb := below_sortWorld posE w 0 q ((posA m).toArray.toList.mergeSort fun x y => !(Go.Proofs.ltOf (posC es (m := m))) y x).toArray os hg1 hg2
    refine ⟨rfl, ⟨by rw [ordL_length, hel], ?_⟩, hb⟩
    have hs := pos_sorted es m hel
    refine posCells (d := ((posA m).toArray.toList.mergeSort fun x y => !(Go.Proofs.ltOf (posC es (m := m))) y x).toArray) ?_ _ (by simpa using hs)
    refine Go.Sort.holds_grow _ _ _ _ _ _ (by simp [Go.Sort.putRow, Go.Sort.mapBlock, Go.Sort.ahead]; exact hg2) (Go.Sort.holds_putRow _ _ _ _ (posA m).toArray _ hH (by simp))

end Go.Proofs.Ytpfbichomgojoaa
