/- Walk: spanning. -/
import Derived.Test.YtpfbichomgojoaaP18
namespace Go.Proofs.Ytpfbichomgojoaa
open Go.RowKit

/-- A matrix of zeros, of which the first i rows are made. -/
structure MatB (w : World) (B : Nat) (O : Option Addr) (s c : Nat) (ds : List (Option Addr × Nat)) (i : Nat) : Prop where
  outer : w.ownsRow B 24 1 (.slice O s c) s (ds.map (rowV s) ++ List.replicate (s - i) (.slice none 0 0))
  dlen : ds.length = i
  le : i ≤ s
  row : ∀ k, k < i → OwnN w B (d_ ds k).1 s (d_ ds k).2 (List.replicate s 0)
  apart : ∀ a b, a < i → b < i → a ≠ b → Dj (d_ ds a).1 (d_ ds b).1
  out : ∀ k, k < i → Dj O (d_ ds k).1
section
variable {w w' : World} {B : Nat} {O : Option Addr} {s c i : Nat} {ds : List (Option Addr × Nat)}
theorem MatB.below (h : MatB w B O s c ds i) (hb : Below w.heap.size w w') : MatB w' B O s c ds i :=
  ⟨own_below h.outer hb, h.dlen, h.le, fun k hk => own_below (h.row k hk) hb, h.apart, h.out⟩
theorem row_replicate {s k : Nat} {x : List Nat} (h : k < s) : row_ (List.replicate s x) k = x := by rw [row_get (by simpa using h)]; simp
theorem MatB.done (h : MatB w B O s c ds s) : Mat w B O s c ds (zeroM s) :=
  ⟨by have := h.outer; rwa [Nat.sub_self, List.replicate_zero, List.append_nil] at this, by simp [zeroM], fun k hk => by unfold zeroM; rw [row_replicate hk]; exact h.row k hk, h.apart, h.out⟩
theorem d_snoc {ds : List (Option Addr × Nat)} {x : Option Addr × Nat} {k : Nat} : d_ (ds ++ [x]) k = if k < ds.length then d_ ds k else if k = ds.length then x else (none, 0) := by
  unfold d_
  rw [List.getD_eq_getElem?_getD, List.getD_eq_getElem?_getD]
  by_cases h : k < ds.length
  · rw [if_pos h, List.getElem?_append_left h]
  · rw [if_neg h, List.getElem?_append_right (by omega)]
    by_cases e : k = ds.length
    · subst e; simp
    · rw [if_neg e, List.getElem?_eq_none (by simp; omega)]; rfl
/-- One row more. -/
theorem MatB.put (h : MatB w B O s c ds i) (hi : i < s) {r : Nat} (hr : OwnN w B (some ⟨r, 0, none⟩) s s (List.replicate s 0)) (hO : blk O ≠ some r) (hd : ∀ k, k < i → blk (d_ ds k).1 ≠ some r) :
    ∃ g, O = some ⟨g, 0, none⟩ ∧ B ≤ g ∧ g < w.heap.size ∧ w.cell? ⟨g, i, none⟩ = some (.slice none 0 0) ∧ w.frozen? ⟨g, i, none⟩ = false ∧
      MatB (w.setCell ⟨g, i, none⟩ (.slice (some ⟨r, 0, none⟩) s s)) B O s c (ds ++ [(some ⟨r, 0, none⟩, s)]) (i + 1) ∧ w.grownBy (w.setCell ⟨g, i, none⟩ (.slice (some ⟨r, 0, none⟩) s s)) (some g) := by
  have hdl := h.dlen
  have hat : (ds.map (rowV s) ++ List.replicate (s - i) (.slice none 0 0))[i]? = some (.slice none 0 0) := by
    rw [List.getElem?_append_right (by rw [List.length_map, hdl]; exact Nat.le_refl _), List.length_map, hdl, Nat.sub_self, List.getElem?_replicate, if_pos (by omega)]
  obtain ⟨g, e, h1, h2, h3, h4, hst⟩ := own_at h.outer hat
  obtain ⟨ho, hg⟩ := hst (.slice (some ⟨r, 0, none⟩) s s)
  subst e
  have hgr : g ≠ r := fun e => hO (by rw [e]; rfl)
  have hv : (ds.map (rowV s) ++ List.replicate (s - i) (Value.slice none 0 0)).set i (Value.slice (some ⟨r, 0, none⟩) s s) = (ds ++ [((some ⟨r, 0, none⟩ : Option Addr), s)]).map (rowV s) ++ List.replicate (s - (i + 1)) (Value.slice none 0 0) := by
    rw [show s - i = (s - (i + 1)) + 1 by omega, List.replicate_succ, List.set_append_right _ _ (by rw [List.length_map, hdl]; exact Nat.le_refl _), List.length_map, hdl, Nat.sub_self, List.set_cons_zero]
    simp [rowV]
  rw [hv] at ho
  have hD : ∀ k, k < i → d_ (ds ++ [((some ⟨r, 0, none⟩ : Option Addr), s)]) k = d_ ds k := fun k hk => by rw [d_snoc, if_pos (by omega)]
  have hDi : d_ (ds ++ [((some ⟨r, 0, none⟩ : Option Addr), s)]) i = (some ⟨r, 0, none⟩, s) := by rw [d_snoc, if_neg (by omega), if_pos (by omega)]
  refine ⟨g, rfl, h1, h2, h3, h4, ⟨ho, by simp [hdl], hi, fun k hk => ?_, fun a b ha hb hab => ?_, fun k hk => ?_⟩, hg⟩
  · by_cases e : k = i
    · subst e; rw [hDi]; exact own_other hr hg (by intro e; injection e with e; exact hgr e.symm)
    · rw [hD k (by omega)]; exact own_other (h.row k (by omega)) hg (fun e => h.out k (by omega) g rfl e)
  · by_cases e1 : a = i
    · have : b < i := by omega
      rw [e1, hDi, hD b this]
      intro k hk hk2
      have hk : some r = some k := hk
      exact hd b this (by rw [hk2, hk])
    · by_cases e2 : b = i
      · rw [e2, hDi, hD a (by omega)]
        intro k hk hk2
        have hk2 : some r = some k := hk2
        exact hd a (by omega) (by rw [hk, hk2])
      · rw [hD a (by omega), hD b (by omega)]; exact h.apart a b (by omega) (by omega) hab
  · by_cases e : k = i
    · subst e; rw [hDi]
      intro k hk hk2
      have hk : some g = some k := hk
      have hk2 : some r = some k := hk2
      rw [← hk2] at hk
      injection hk with hk
      exact hgr hk
    · rw [hD k (by omega)]; exact h.out k (by omega)
end
theorem MatB.start {w : World} {g s : Nat} (h : w.ownsRow g 24 1 (.slice (some ⟨g, 0, none⟩) s s) s (List.replicate s (.slice none 0 0))) : MatB w g (some ⟨g, 0, none⟩) s s [] 0 :=
  ⟨by simpa using h, rfl, Nat.zero_le _, fun k hk => by omega, fun a b ha => by omega, fun k hk => by omega⟩
theorem row_made (w : World) (s : Nat) (hs : s ≤ 1000000) : OwnN (w.alloc (.cells (madeCells #[.int .i64 0] s) 3)) w.heap.size (some ⟨w.heap.size, 0, none⟩) s s (List.replicate s 0) := by
  have := World.ownsRow_lit (e := 3) (base := w.heap.size) (size := 1) w (madeCells #[.int .i64 0] s) s (Nat.le_refl _) (by simp only [maxLen]; omega) (by simp [madeCells])
  rw [toList_madeCells_one] at this
  unfold OwnN
  have e : nv (List.replicate s 0) = List.replicate s (.int .i64 0) := by simp [nv]
  rw [e]; exact this
theorem ButRows.butS {S : Nat → Prop} {ds : List (Option Addr × Nat)} {s : Nat} {w w' : World} (h : ButRows ds s w w') (hr : ∀ i k, i < s → blk (d_ ds i).1 = some k → S k) : ButS S w w' :=
  ⟨h.os, h.tape, h.output, h.size, fun k hk hn => h.block k hk (fun i hi e => hn (hr i k hi e))⟩
theorem filter_snoc (p : Nat → Bool) (k : Nat) : (List.range (k + 1)).filter p = if p k then (List.range k).filter p ++ [k] else (List.range k).filter p := by
  rw [filter_range_succ]
  cases p k <;> simp

theorem mulmod_op (x y p : Nat) (hx : x ≤ 2147483647) (hy : y ≤ 2147483647) : ∃ v1 : Int, IntKind.i64.wrap ((x : Int) * (y : Int)) = v1 ∧ v1.tmod (p : Int) = ((x * y % p : Nat) : Int) :=
  ⟨_, rfl, by have h := mulmod x y p hx hy; unfold wrap64 at h; rw [IntKind.wrap_i64]; exact h⟩
theorem detGo_lt {p s : Nat} (hp1 : 1 < p) : ∀ (l : List Nat) (st : Nat × List (List Nat)), st.1 < p → detGo p s l st < p := by
  intro l
  induction l with
  | nil => intro st h; exact h
  | cons c l ih =>
    intro st h
    rw [detGo]
    unfold gauS
    split
    · omega
    · rename_i st' he
      refine ih st' ?_
      split at he
      · cases he
      · split at he
        · injection he with he; subst he; exact Nat.mod_lt _ (by omega)
        · injection he with he; subst he; exact Nat.mod_lt _ (by omega)
theorem detP_lt {p : Nat} {M : List (List Nat)} (hp1 : 1 < p) (_ : LtM p M) : detP p M < p := detGo_lt hp1 _ _ hp1
set_option maxHeartbeats 8000000 in
set_option maxRecDepth 100000 in
theorem spanning_c (p n : Nat) (E : Option Addr) (m ce : Nat) (es : List Ed) (bb ba : Nat) (ub ua gb ga : List Nat) (wt : Nat) (w : World) (he : RdE w E m es) (hN : InN n es) (hpb : Pt w bb ub) (hpa : Pt w ba ua)
    (hrb : Rep n ub gb) (hra : Rep n ua ga) (hlb : ∀ v, v < n → nat_ gb v < n) (hp1 : 1 < p) (hp : p ≤ 2147483647) :
    Calls Try.prog 65 #[netV n E m ce, .pointer (some ⟨bb, 0, none⟩), .pointer (some ⟨ba, 0, none⟩), .int .i64 (wt : Int), .int .i64 (p : Int)] w
      fun e w' => e = .returned (.int .i64 ((spP p n es gb ga wt : Nat) : Int)) ∧ Below w.heap.size w w' := by
  have hel := Lib.hid he.len
  have hn16 := hN.1
  have hm60 : m ≤ 60 := by have := hN.2.1; have := hel.out; omega
  have HB := Lib.hid hrb
  have HA := Lib.hid hra
  have HSP := Lib.hid (show spP p n es gb ga wt = (List.range n).foldl (spS p n es gb ga wt) 1 from rfl)
  clear hrb hra
  unfold netV
  go_enter Try.func65, Try.ntmps65
  have hw0 := below_one' w (.cells #[.int .i64 (n : Int), .slice E m ce] 66)
  obtain ⟨hc0, hc1⟩ := two_cells w (.int .i64 (n : Int)) (.slice E m ce) 66
  have hz0 : (w.alloc (.cells #[.int .i64 (n : Int), .slice E m ce] 66)).heap.size = w.heap.size + 1 := by simp
  go_wp2
  have hcp := one_cell (w.alloc (.cells #[.int .i64 (n : Int), .slice E m ce] 66)) (.int .i64 (p : Int)) 3
  have hw1 := below_one' (w.alloc (.cells #[.int .i64 (n : Int), .slice E m ce] 66)) (.cells #[.int .i64 (p : Int)] 3)
  have hbw := hw0.trans (hw1.mono (by omega))
  have hz1 : ((w.alloc (.cells #[.int .i64 (n : Int), .slice E m ce] 66)).alloc (.cells #[.int .i64 (p : Int)] 3)).heap.size = w.heap.size + 2 := by simp
  replace hc0 := Below.keeps hw1 _ _ hc0
  replace hc1 := Below.keeps hw1 _ _ hc1
  rw [hz0] at hcp
  generalize (w.alloc (.cells #[.int .i64 (n : Int), .slice E m ce] 66)).alloc (.cells #[.int .i64 (p : Int)] 3) = w1 at *
  clear hw0 hw1 hz0
  have HZ1 := Lib.hid hz1
  clear hz1
  go_loopw [26, 11] (fun i o wr => ∃ t out : Nat, t ≤ n ∧ i = .int .i64 ((t : Nat) : Int) ∧ o = .int .i64 ((out : Nat) : Int) ∧ out < p ∧ (List.range t).foldl (spS p n es gb ga wt) 1 = out ∧ Below w1.heap.size w1 wr) (fun i _ _ => n - (intOf i).toNat)
  case atStart => exact ⟨0, 1, Nat.zero_le _, rfl, rfl, hp1, rfl, Below.refl _ _⟩
  case round =>
    obtain ⟨t, out, ht, rfl, rfl, hout, hfold, hb⟩ := hrel
    have HF := Lib.hid hfold
    clear hfold
    have hc0r := (hb.cell (by rw [HZ1.out]; simp)).trans hc0
    have hc1r := (hb.cell (by rw [HZ1.out]; simp)).trans hc1
    have hcpr := (hb.cell (by rw [HZ1.out]; simp)).trans hcp
    have hbwr := hbw.trans (hb.mono hbw.size)
    by_cases htn : t < n
    · have hmm := @run_makeMap Try.prog
      have hm0 := MapI.made wr
      have hbm := hb.trans ((below_one' wr (.map #[] 0)).mono hb.size)
      have hzm : (wr.alloc (.map #[] 0)).heap.size = wr.heap.size + 1 := by simp
      have hc0m := (hbm.cell (by rw [HZ1.out]; simp)).trans hc0
      go_wp2
      clear hmm hc0r hc1r hcpr hc0m
      generalize wr.alloc (.map #[] 0) = wm at *
      have hbm1 := hb.size
      generalize wr.heap.size = bm at *
      have hCC := Lib.hid (show comC n gb ga t = (List.range n).filter (fun v => decide (nat_ gb v = v) && decide (nat_ ga v = t)) from rfl)
      go_loopw [32] (fun i wi => ∃ v : Nat, v ≤ n ∧ i = .int .i64 ((v : Nat) : Int) ∧ MapI wi bm ((List.range v).filter (fun v => decide (nat_ gb v = v) && decide (nat_ ga v = t))) ∧ Below w1.heap.size w1 wi) (fun i _ => n - (intOf i).toNat)
      case atStart => exact ⟨0, Nat.zero_le _, rfl, hm0, hbm⟩
      case round =>
        obtain ⟨v, hv, rfl, hmi, hbi⟩ := hrel
        have HFS := Lib.hid (filter_snoc (fun v => decide (nat_ gb v = v) && decide (nat_ ga v = t)) v)
        have hflt : ((List.range v).filter (fun v => decide (nat_ gb v = v) && decide (nat_ ga v = t))).length ≤ v := by
          have := List.length_filter_le (fun v => decide (nat_ gb v = v) && decide (nat_ ga v = t)) (List.range v)
          simpa using this
        have hfnd : ((List.range v).filter (fun v => decide (nat_ gb v = v) && decide (nat_ ga v = t))).Nodup := List.nodup_range.filter _
        have hbwi := hbw.trans (hbi.mono hbw.size)
        by_cases hvn : v < n
        · as_aux_lemma =>
            have hbo := of_c bb ub v wr (hpb.below hbwi) HB.out.1 (by omega)
            rw [HB.out.2.2 v hvn] at hbo
            have hao := of_c ba ua v wr (hpa.below hbwi) HA.out.1 (by omega)
            rw [HA.out.2.2 v hvn] at hao
            have HFv : Hid ((List.range (v + 1)).filter (fun v => decide (nat_ gb v = v) && decide (nat_ ga v = t)) = if (decide (nat_ gb v = v) && decide (nat_ ga v = t)) = true then (List.range v).filter (fun v => decide (nat_ gb v = v) && decide (nat_ ga v = t)) ++ [v] else (List.range v).filter (fun v => decide (nat_ gb v = v) && decide (nat_ ga v = t))) := HFS.out
            clear HFS
            generalize hT : (List.range v).filter (fun v => decide (nat_ gb v = v) && decide (nat_ ga v = t)) = T at *
            have HT := Lib.hid hT
            clear hT
            by_cases h1 : nat_ gb v = v
            · have hd1 : (((nat_ gb v : Nat) : Int) == (v : Int)) = true := by simp [h1]
              by_cases h2 : nat_ ga v = t
              · have hd2 : (((nat_ ga v : Nat) : Int) == (t : Int)) = true := by simp [h2]
                have HFw : Hid ((List.range (v + 1)).filter (fun v => decide (nat_ gb v = v) && decide (nat_ ga v = t)) = T ++ [v]) := by rw [HFv.out, if_pos (by simp [h1, h2])]; exact rfl
                clear h1 h2 HFv
                generalize nat_ gb v = gv at *
                generalize nat_ ga v = av at *
                go_wp2_with fail
                refine hbo.mono ?_
                rintro e w7 ⟨rfl, rfl⟩
                go_wp2_with fail
                refine hao.mono ?_
                rintro e w7 ⟨rfl, rfl⟩
                clear hbo hao
                go_wp2_with (first | ((with_reducible show Go.wpList _ _ _ ({ dst := some 50, op := _, type := _, pos := _, after := _, guard := _ } :: _) _ _); refine wpList_len_i hmi hfnd rfl _ rfl rfl ?_) | (at_mapUpdate; refine wpList_upd_i hmi rfl _ _ _ rfl rfl rfl rfl (by omega) (by omega) ?_; intro w8 hm8 hg8))
                refine ⟨⟨v + 1, by omega, by go_num, by rw [HFw.out]; exact hm8, hbi.grown hg8 hbi.size (fun k hk => by injection hk with hk; omega)⟩, by simp [intOf]; omega⟩
              · have hd2 : (((nat_ ga v : Nat) : Int) == (t : Int)) = false := by simp; omega
                have HFw : Hid ((List.range (v + 1)).filter (fun v => decide (nat_ gb v = v) && decide (nat_ ga v = t)) = T) := by rw [HFv.out, if_neg (by simp [h1, h2])]; exact rfl
                clear h1 h2 HFv
                generalize nat_ gb v = gv at *
                generalize nat_ ga v = av at *
                go_wp2_with fail
                refine hbo.mono ?_
                rintro e w7 ⟨rfl, rfl⟩
                go_wp2_with fail
                refine hao.mono ?_
                rintro e w7 ⟨rfl, rfl⟩
                clear hbo hao
                go_wp2
                refine ⟨⟨v + 1, by omega, by go_num, by rw [HFw.out]; exact hmi, hbi⟩, by simp [intOf]; omega⟩
            · have hd1 : (((nat_ gb v : Nat) : Int) == (v : Int)) = false := by simp; omega
              have HFw : Hid ((List.range (v + 1)).filter (fun v => decide (nat_ gb v = v) && decide (nat_ ga v = t)) = T) := by rw [HFv.out, if_neg (by simp [h1])]; exact rfl
              clear h1 HFv hao
              generalize nat_ gb v = gv at *
              go_wp2_with fail
              refine hbo.mono ?_
              rintro e w7 ⟨rfl, rfl⟩
              clear hbo
              go_wp2
              refine ⟨⟨v + 1, by omega, by go_num, by rw [HFw.out]; exact hmi, hbi⟩, by simp [intOf]; omega⟩
        · obtain rfl : n = v := by omega
          rw [← hCC.out] at hmi hflt hfnd
          have HCm : Hid (∀ x ∈ comC n gb ga t, x < n) := fun x hx => (mem_comC.1 hx).1
          have HSS := Lib.hid (show spS p n es gb ga wt out t = if (comC n gb ga t).length ≤ 1 then out else out * detP p (spM p es gb (comC n gb ga t) wt) % p from rfl)
          have HF1 := Lib.hid (foldl_range (f := spS p n es gb ga wt) (a := 1) (k := t))
          rw [HF.out] at HF1
          clear HFS hCC HF
          generalize comC n gb ga t = C at *
          have f0 := (hbi.cell (by rw [HZ1.out]; simp)).trans hc0
          have f1 := (hbi.cell (by rw [HZ1.out]; simp)).trans hc1
          have fp := (hbi.cell (by rw [HZ1.out]; simp)).trans hcp
          by_cases hs1 : C.length ≤ 1
          · have hd1 : decide ((C.length : Int) - 1 < 1) = true := by simp; omega
            have HO : Hid ((List.range (t + 1)).foldl (spS p n es gb ga wt) 1 = out) := by rw [HF1.out, HSS.out, if_pos hs1]; exact rfl
            have hba := below_one' wr (.cells #[.int .i64 ((C.length : Int) - 1)] 3)
            go_wp2_with ((with_reducible show Go.wpList _ _ _ ({ dst := some 53, op := _, type := _, pos := _, after := _, guard := _ } :: _) _ _); refine wpList_len_i hmi hfnd rfl _ rfl rfl ?_)
            refine ⟨⟨t + 1, out, by omega, by go_num, rfl, hout, HO.out, hbi.trans (hba.mono hbi.size)⟩, by simp [intOf]; omega⟩
          · obtain ⟨s, hsC⟩ : ∃ s, C.length = s + 1 := ⟨C.length - 1, by omega⟩
            have hsi : ((C.length : Nat) : Int) - 1 = (s : Int) := by omega
            have hd1 : decide ((s : Int) < 1) = false := by simp; omega
            have HO : Hid ((List.range (t + 1)).foldl (spS p n es gb ga wt) 1 = out * detP p (spM p es gb C wt) % p) := by rw [HF1.out, HSS.out, if_neg hs1]; exact rfl
            have hba := below_one' wr (.cells #[.int .i64 (s : Int)] 3)
            have fs := one_cell wr (.int .i64 (s : Int)) 3
            have hzs : (wr.alloc (.cells #[.int .i64 (s : Int)] 3)).heap.size = wr.heap.size + 1 := by simp
            have hmlt := hmi.lt
            have hs16 : s ≤ 15 := by omega
            have hs0 : 0 < s := by omega
            clear hs1 HF1 HSS
            have HsC := Lib.hid hsC
            clear hsC
            go_wp2_with (first | ((with_reducible show Go.wpList _ _ _ ({ dst := some 53, op := _, type := _, pos := _, after := _, guard := _ } :: _) _ _); refine wpList_len_i hmi hfnd rfl _ rfl rfl ?_) | ((with_reducible show Go.wpList _ _ _ ({ dst := some 58, op := _, type := _, pos := _, after := _, guard := _ } :: _) _ _); refine wpList_mk sl57 rfl rfl _ _ rfl rfl rfl (by omega) (by omega) ?_; intro w4 ho4 hb4; refine stopHere ?_))
            unfold Stopped
            rw [hzs] at ho4
            have hMB4 := MatB.start ho4
            have hz4 := (own_lt ho4 _ rfl).2
            have hbA := hba.trans (hb4.mono hba.size)
            have fs4 := Below.keeps hb4 _ _ fs
            have fm := one_cell w4 (.slice (some ⟨wr.heap.size + 1, 0, none⟩) s s) 57
            have hbc := below_one' w4 (.cells #[.slice (some ⟨wr.heap.size + 1, 0, none⟩) s s] 57)
            have hMB5 := hMB4.below hbc
            have fs5 := Below.keeps hbc _ _ fs4
            have hbA5 := hbA.trans (hbc.mono hbA.size)
            have hmi5 := hmi.below hbA5 hmlt
            have hbi5 := hbi.trans (hbA5.mono hbi.size)
            have f05 := Below.keeps hbA5 _ _ f0
            have f15 := Below.keeps hbA5 _ _ f1
            have fp5 := Below.keeps hbA5 _ _ fp
            have hz5 : (w4.alloc (.cells #[.slice (some ⟨wr.heap.size + 1, 0, none⟩) s s] 57)).heap.size = w4.heap.size + 1 := by simp
            have hbis := hbi.size
            clear hsi hba fs hb4 ho4 hMB4 hbA fs4 hbc hbA5 hmi f0 f1 fp
            go_wp2
            clear hzs hd1
            generalize w4.alloc (.cells #[.slice (some ⟨wr.heap.size + 1, 0, none⟩) s s] 57) = w5 at *
            have HZ5 := Lib.hid hz5
            clear hz5
            generalize w4.heap.size = mb at *
            generalize wr.heap.size = sb at *
            have hmk := fun W => run_make_row' (P := Try.prog) 24 3 (.int .i64 0) 8 sl24.und sl24.inf rfl .i64 .i64 s (by omega) (by omega) W
            go_loopw [61] (fun i wx => ∃ (k : Nat) (ds : List (Option Addr × Nat)), k ≤ s ∧ i = .int .i64 ((k : Nat) : Int) ∧ MatB wx (sb + 1) (some ⟨sb + 1, 0, none⟩) s s ds k ∧ (∀ j q, j < k → blk (d_ ds j).1 = some q → mb < q) ∧ ButS (fun k => k = sb + 1 ∨ mb < k) w5 wx) (fun i _ => s - (intOf i).toNat)
            case atStart => exact ⟨0, [], Nat.zero_le _, rfl, hMB5, fun j q hj => by omega, ButS.refl _ _⟩
            case round =>
              obtain ⟨k, ds, hks, rfl, hMB, hds, hbs⟩ := hrel
              have fmr := hbs.cell fm (by show ¬ (mb = sb + 1 ∨ mb < mb); omega)
              have fsr := hbs.cell fs5 (by show ¬ (sb = sb + 1 ∨ mb < sb); omega)
              have hwsb : w.heap.size + 2 ≤ sb := by have := HZ1.out; omega
              by_cases hk : k < s
              · as_aux_lemma =>
                  have hbn := below_one' wr (.cells (madeCells #[.int .i64 0] s) 3)
                  have hrow := own_mono (row_made wr s (by omega)) (show sb + 1 ≤ wr.heap.size by have := hbs.size; rw [HZ5.out] at this; omega)
                  have hszr : mb < wr.heap.size := by have := hbs.size; rw [HZ5.out] at this; omega
                  obtain ⟨g, hO, _, _, h3, h4, h5, h6⟩ := (hMB.below hbn).put hk hrow (by intro e; injection e with e; have e : sb + 1 = wr.heap.size := e; omega)
                    (fun j hj e => by have := (own_lt (hMB.row j hj) _ e).2; omega)
                  injection hO with hO; injection hO with hO; subst hO
                  have fmA := Below.keeps hbn _ _ fmr
                  have fsA := Below.keeps hbn _ _ fsr
                  have HP5 := Lib.hid h5
                  have HP6 := Lib.hid h6
                  have HBN := Lib.hid hbn
                  clear h5 h6 hbn hrow
                  go_wp2
                  go_region
                  generalize hW : World.drew _ = W2
                  go_wp2
                  refine ⟨⟨k + 1, ds ++ [(some ⟨wr.heap.size, 0, none⟩, s)], by omega, by go_num, by rw [← hW]; exact HP5.out.below (below_q _ 1), ?_, ?_⟩, by simp [intOf]; omega⟩
                  · intro j q hj hb
                    rw [d_snoc] at hb
                    have hdl := hMB.dlen
                    split at hb
                    · exact hds j q (by omega) hb
                    · split at hb
                      · have hb : some wr.heap.size = some q := hb
                        injection hb with hb; omega
                      · cases hb
                  · rw [← hW]
                    exact ((hbs.trans (ButS.of_below HBN.out)).trans (ButS.one (.inl rfl) HP6.out)).drewN 1
              · obtain rfl : s = k := by omega
                have hmf : ∀ (fn : Fn) (first cap : Array Value) (w : World), (Instr.makeFunc fn first cap).run Try.prog w = .ok (.func fn first cap) w := fun _ _ _ _ => rfl
                have hMat := hMB.done
                have HZ := Lib.hid (show zeroM s = spF p es gb C wt 0 by unfold spF; rw [HsC.out]; rfl)
                have hlt0 : LtM p (zeroM s) := fun i j => by
                  unfold zeroM
                  by_cases hi : i < s
                  · rw [row_replicate hi]; exact nat_lt_of (fun x hx => by rw [List.eq_of_mem_replicate hx]; omega) (by omega) j
                  · rw [row_out (by simp; omega)]; exact nat_lt_of (fun x hx => by simp at hx) (by omega) j
                have f0r := hbs.cell f05 (by show ¬ (w.heap.size = sb + 1 ∨ mb < w.heap.size); omega)
                have f1r := hbs.cell f15 (by show ¬ (w.heap.size = sb + 1 ∨ mb < w.heap.size); omega)
                clear hmk hMB5 hMB
                go_wp2
                clear hmf
                rw [HZ.out] at hMat hlt0
                go_loopw [74] (fun i wx => ∃ k : Nat, k ≤ m ∧ i = .int .i64 ((k : Nat) : Int) ∧ Mat wx (sb + 1) (some ⟨sb + 1, 0, none⟩) s s ds (spF p es gb C wt k) ∧ LtM p (spF p es gb C wt k) ∧ ButS (fun k => k = sb + 1 ∨ mb < k) w5 wx) (fun i _ => m - (intOf i).toNat)
                case atStart => exact ⟨0, Nat.zero_le _, rfl, hMat, hlt0, hbs⟩
                case round =>
                  obtain ⟨k, hkm, rfl, hMk, hLk, hbk⟩ := hrel
                  have hbel : Below w1.heap.size w1 wr := hbi5.trans (hbk.below hbi5.size (fun k h => by have := hbi5.size; omega))
                  have hbelw := hbw.trans (hbel.mono hbw.size)
                  have g1 := hbk.cell f15 (by show ¬ (w.heap.size = sb + 1 ∨ mb < w.heap.size); omega)
                  have gp := hbk.cell fp5 (by show ¬ (w.heap.size + 1 = sb + 1 ∨ mb < w.heap.size + 1); omega)
                  have gm := hbk.cell fm (by show ¬ (mb = sb + 1 ∨ mb < mb); omega)
                  have gs := hbk.cell fs5 (by show ¬ (sb = sb + 1 ∨ mb < sb); omega)
                  by_cases hk : k < m
                  · obtain ⟨hea, heb, hew⟩ := hN.2.2 k (by have := hel.out; omega)
                    obtain ⟨b1, o1, hE1, _, ha1, hb1c, hw1⟩ := (he.below hbelw).at_ hk
                    have hba := below_one' wr (.cells #[.int .i64 (ed_ es k).a, .int .i64 (ed_ es k).b, .int .i64 (ew es k)] 42)
                    obtain ⟨hca, hcb, hcw⟩ := three_cells wr (.int .i64 (ed_ es k).a) (.int .i64 (ed_ es k).b) (.int .i64 (ew es k)) 42
                    have hbel6 := hbelw.trans (hba.mono hbelw.size)
                    have hof1 := of_c bb ub (ed_ es k).a _ (hpb.below hbel6) HB.out.1 (by omega)
                    have hof2 := of_c bb ub (ed_ es k).b _ (hpb.below hbel6) HB.out.1 (by omega)
                    rw [HB.out.2.2 _ hea] at hof1
                    rw [HB.out.2.2 _ heb] at hof2
                    have hla := hlb _ hea
                    have hlb' := hlb _ heb
                    have gm6 := Below.keeps hba _ _ gm
                    have gs6 := Below.keeps hba _ _ gs
                    have gp6 := Below.keeps hba _ _ gp
                    have hM6 := hMk.below hba
                    have hmi6 : MapI wr bm C := ownsMap_block hmi5 (hbk.block bm (by have := HZ5.out; omega) (by show ¬ (bm = sb + 1 ∨ mb < bm); omega))
                    have hmi7 := hmi6.below hba (by have := HZ5.out; have := hbk.size; omega)
                    have hb6 := hbk.trans (ButS.of_below (S := fun k => k = sb + 1 ∨ mb < k) hba)
                    have HSK := Lib.hid (foldl_range (f := spK p es gb C wt) (a := zeroM (C.length - 1)) (k := k))
                    have HSB := Lib.hid (show spB es gb C wt k = (decide (nat_ gb (ed_ es k).a ∈ C) && decide (ew es k = wt) && decide (atC C (nat_ gb (ed_ es k).a) ≠ atC C (nat_ gb (ed_ es k).b))) from rfl)
                    have HSQ : Hid (spF p es gb C wt (k + 1) = if spB es gb C wt k = true then spA p (spF p es gb C wt k) (atC C (nat_ gb (ed_ es k).a)) (atC C (nat_ gb (ed_ es k).b)) else spF p es gb C wt k) := HSK.out
                    clear HSK
                    subst hE1
                    clear gm gs gp hMk hmi6
                    go_wp2_with fail
                    clear ha1 hb1c hw1
                    generalize wr.alloc (.cells #[.int .i64 (ed_ es k).a, .int .i64 (ed_ es k).b, .int .i64 (ew es k)] 42) = w6 at *
                    generalize nat_ gb (ed_ es k).a = la at *
                    generalize nat_ gb (ed_ es k).b = lb at *
                    refine hof1.mono ?_
                    rintro e w7 ⟨rfl, rfl⟩
                    go_wp2_with ((with_reducible show Go.wpList _ _ _ ({ dst := some 84, op := _, type := _, pos := _, after := _, guard := _ } :: _) _ _); refine wpList_look_iok hmi7 hfnd rfl _ _ rfl rfl rfl (by omega) ?_; refine stopHere ?_)
                    unfold Stopped
                    go_wp2_with fail
                    refine hof2.mono ?_
                    rintro e w7 ⟨rfl, rfl⟩
                    go_wp2_with ((with_reducible show Go.wpList _ _ _ ({ dst := some 92, op := _, type := _, pos := _, after := _, guard := _ } :: _) _ _); refine wpList_look_i hmi7 hfnd rfl _ _ rfl rfl rfl (by omega) ?_; refine stopHere ?_)
                    unfold Stopped
                    have hale : atC C la ≤ 1000000 := by
                      unfold atC; split
                      · have := idxC_lt (C := C) (by assumption); omega
                      · omega
                    have hble : atC C lb ≤ 1000000 := by
                      unfold atC; split
                      · have := idxC_lt (C := C) (by assumption); omega
                      · omega
                    clear hof1 hof2
                    by_cases hA : la ∈ C
                    · as_aux_lemma =>
                        have hdA : decide (la ∈ C) = true := by simpa using hA
                        by_cases hW : ew es k = wt
                        · have hdW : (((ew es k : Nat) : Int) == (wt : Int)) = true := by simp [hW]
                          by_cases hI : atC C la = atC C lb
                          · have hdI : (((atC C la : Nat) : Int) != ((atC C lb : Nat) : Int)) = false := by simp [hI]
                            have HQ : Hid (spF p es gb C wt (k + 1) = spF p es gb C wt k) := by rw [HSQ.out, if_neg (by rw [HSB.out]; simp [hI])]; exact rfl
                            clear hI hA hW
                            go_wp2
                            refine ⟨⟨k + 1, by omega, by go_num, by rw [HQ.out]; exact hM6, by rw [HQ.out]; exact hLk, hb6⟩, by simp [intOf]; omega⟩
                          · as_aux_lemma =>
                              have hdI : (((atC C la : Nat) : Int) != ((atC C lb : Nat) : Int)) = true := by simp; omega
                              have HQ : Hid (spF p es gb C wt (k + 1) = spA p (spF p es gb C wt k) (atC C la) (atC C lb)) := by rw [HSQ.out, if_pos (by rw [HSB.out]; simp [hI, hA, hW])]; exact rfl
                              have HSA := Lib.hid (show spA p (spF p es gb C wt k) (atC C la) (atC C lb) = addP p (p - 1) (addP p (p - 1) (addP p (p + 1) (addP p (p + 1) (spF p es gb C wt k) (atC C la) (atC C la)) (atC C lb) (atC C lb)) (atC C la) (atC C lb)) (atC C lb) (atC C la) from rfl)
                              have hrw : ∀ i k, i < s → blk (d_ ds i).1 = some k → (k = sb + 1 ∨ mb < k) := fun i q hi e => .inr (hds i q hi e)
                              clear hI hA hW
                              generalize spF p es gb C wt k = M0 at *
                              generalize atC C la = ia at *
                              generalize atC C lb = ib at *
                              have hl1 := addP_lt (e := p + 1) (i := ia) (j := ia) (show 0 < p by omega) hLk
                              have hl2 := addP_lt (e := p + 1) (i := ib) (j := ib) (show 0 < p by omega) hl1
                              have hl3 := addP_lt (e := p - 1) (i := ia) (j := ib) (show 0 < p by omega) hl2
                              have hl4 := addP_lt (e := p - 1) (i := ib) (j := ia) (show 0 < p by omega) hl3
                              rw [← HSA.out] at hl4
                              generalize spA p M0 ia ib = M4 at *
                              go_wp2_with fail
                              refine (add_c sb mb (w.heap.size + 1) (sb + 1) (some ⟨sb + 1, 0, none⟩) s s ds M0 p (p + 1) ia ia (1) w6 hM6 hLk (by omega) hp gs6 gm6 gp6 (by omega) (by omega) (by omega)).mono ?_
                              rintro e w7 ⟨rfl, hM7, hR⟩
                              have gs7 := hR.cell gs6 (fun i hi e => by have := hds i sb hi e; omega)
                              have gm7 := hR.cell gm6 (fun i hi e => by have := hds i mb hi e; omega)
                              have gp7 := hR.cell gp6 (fun i hi e => by have := hds i (w.heap.size + 1) hi e; omega)
                              have hb7 := hb6.trans (hR.butS hrw)
                              clear gs6 gm6 gp6 hM6 hR
                              generalize addP p (p + 1) M0 ia ia = M1 at *
                              go_wp2_with fail
                              refine (add_c sb mb (w.heap.size + 1) (sb + 1) (some ⟨sb + 1, 0, none⟩) s s ds M1 p (p + 1) ib ib (1) w7 hM7 hl1 (by omega) hp gs7 gm7 gp7 (by omega) (by omega) (by omega)).mono ?_
                              rintro e w8 ⟨rfl, hM8, hR⟩
                              have gs8 := hR.cell gs7 (fun i hi e => by have := hds i sb hi e; omega)
                              have gm8 := hR.cell gm7 (fun i hi e => by have := hds i mb hi e; omega)
                              have gp8 := hR.cell gp7 (fun i hi e => by have := hds i (w.heap.size + 1) hi e; omega)
                              have hb8 := hb7.trans (hR.butS hrw)
                              clear gs7 gm7 gp7 hM7 hR
                              generalize addP p (p + 1) M1 ib ib = M2 at *
                              go_wp2_with fail
                              refine (add_c sb mb (w.heap.size + 1) (sb + 1) (some ⟨sb + 1, 0, none⟩) s s ds M2 p (p - 1) ia ib (-1) w8 hM8 hl2 (by omega) hp gs8 gm8 gp8 (by omega) (by omega) (by omega)).mono ?_
                              rintro e w9 ⟨rfl, hM9, hR⟩
                              have gs9 := hR.cell gs8 (fun i hi e => by have := hds i sb hi e; omega)
                              have gm9 := hR.cell gm8 (fun i hi e => by have := hds i mb hi e; omega)
                              have gp9 := hR.cell gp8 (fun i hi e => by have := hds i (w.heap.size + 1) hi e; omega)
                              have hb9 := hb8.trans (hR.butS hrw)
                              clear gs8 gm8 gp8 hM8 hR
                              generalize addP p (p - 1) M2 ia ib = M3 at *
                              go_wp2_with fail
                              refine (add_c sb mb (w.heap.size + 1) (sb + 1) (some ⟨sb + 1, 0, none⟩) s s ds M3 p (p - 1) ib ia (-1) w9 hM9 hl3 (by omega) hp gs9 gm9 gp9 (by omega) (by omega) (by omega)).mono ?_
                              rintro e w10 ⟨rfl, hM10, hR⟩
                              rw [← HSA.out] at hM10
                              have hb10 := hb9.trans (hR.butS hrw)
                              clear gs9 gm9 gp9 hM9 hR
                              go_wp2
                              refine ⟨⟨k + 1, by omega, by go_num, by rw [HQ.out]; exact hM10, by rw [HQ.out]; exact hl4, hb10⟩, by simp [intOf]; omega⟩
                        · have hdW : (((ew es k : Nat) : Int) == (wt : Int)) = false := by simp; omega
                          have HQ : Hid (spF p es gb C wt (k + 1) = spF p es gb C wt k) := by rw [HSQ.out, if_neg (by rw [HSB.out]; simp [hW])]; exact rfl
                          clear hA hW
                          go_wp2
                          refine ⟨⟨k + 1, by omega, by go_num, by rw [HQ.out]; exact hM6, by rw [HQ.out]; exact hLk, hb6⟩, by simp [intOf]; omega⟩
                    · as_aux_lemma =>
                        have hdA : decide (la ∈ C) = false := by simpa using hA
                        have HQ : Hid (spF p es gb C wt (k + 1) = spF p es gb C wt k) := by rw [HSQ.out, if_neg (by rw [HSB.out]; simp [hA])]; exact rfl
                        clear hA
                        go_wp2
                        refine ⟨⟨k + 1, by omega, by go_num, by rw [HQ.out]; exact hM6, by rw [HQ.out]; exact hLk, hb6⟩, by simp [intOf]; omega⟩
                  · as_aux_lemma =>
                      obtain rfl : m = k := by omega
                      have HM : Hid (spF p es gb C wt m = spM p es gb C wt) := by unfold spM; rw [hel.out]; exact rfl
                      rw [HM.out] at hMk hLk
                      have hdlt := (fun h1 h2 => detP_lt (M := spM p es gb C wt) h1 h2) hp1 hLk
                      have HDc := Lib.hid (determinant_c p (sb + 1) (some ⟨sb + 1, 0, none⟩) s s ds (spM p es gb C wt) (wr.drewN 1) (hMk.below (below_q wr 1)) (by omega) hp1 hp hLk (fun k => k = sb + 1 ∨ mb < k)
                        (fun k h => by have h : some (sb + 1) = some k := h; injection h with h; exact .inl h.symm) (fun i q hi e => .inr (hds i q hi e)))
                      generalize detP p (spM p es gb C wt) = dt at *
                      obtain ⟨v1, e1, e2⟩ := mulmod_op out dt p (by omega) (by omega)
                      have hol : out * dt % p < p := Nat.mod_lt _ (by omega)
                      have HOL := Lib.hid HO.out
                      generalize out * dt % p = o2 at *
                      have hpz : ¬ p = 0 := by omega
                      clear hMk hLk gs f0r f1r fmr fsr HO hlt0 hMat g1
                      go_wp2
                      refine wp_region_held_drew (S := fun w' => w'.cell? ⟨mb, 0, none⟩ = some (.slice (some ⟨sb + 1, 0, none⟩) s s) ∧ w'.cell? ⟨w.heap.size + 1, 0, none⟩ = some (.int .i64 (p : Int))) (by kernel_rfl) ⟨gm, gp⟩ (fun hHeld => ?_)
                      refine wpAnyH_take (i := 0) (oi := ⟨some 122, _, _, _, _, _⟩) (v := ?_) rfl (by kernel_rfl) (by kernel_rfl) (by kernel_rfl) (fun _ _ _ h => h) (Or.inl ⟨by rfl, fun w hSw => ?_⟩) (by assumption) ?_
                      rotate_left
                      · obtain ⟨hSa, hSb⟩ := hSw
                        go_simp
                        try with_reducible rfl
                      try simp only [Act.put, List.setIfInBounds_toArray, List.set_cons_zero, List.set_cons_succ]
                      refine wpAnyH_take (i := 1) (oi := ⟨some 123, _, _, _, _, _⟩) (v := ?_) rfl (by kernel_rfl) (by kernel_rfl) (by kernel_rfl) (fun _ _ _ h => h) (Or.inl ⟨by rfl, fun w hSw => ?_⟩) (by assumption) ?_
                      rotate_left
                      · obtain ⟨hSa, hSb⟩ := hSw
                        go_simp
                        try with_reducible rfl
                      try simp only [Act.put, List.setIfInBounds_toArray, List.set_cons_zero, List.set_cons_succ]
                      refine wpAnyH_take (i := 2) (oi := ⟨some 124, _, _, _, _, _⟩) (v := ?_) rfl (by kernel_rfl) (by kernel_rfl) (by kernel_rfl) (fun _ _ _ h => h) (Or.inl ⟨by rfl, fun w hSw => ?_⟩) (by assumption) ?_
                      rotate_left
                      · obtain ⟨hSa, hSb⟩ := hSw
                        go_simp
                        try with_reducible rfl
                      try simp only [Act.put, List.setIfInBounds_toArray, List.set_cons_zero, List.set_cons_succ]
                      refine wpAnyH_take (i := 5) (oi := ⟨some 127, _, _, _, _, _⟩) (v := ?_) rfl (by kernel_rfl) (by kernel_rfl) (by kernel_rfl) (fun _ _ _ h => h) (Or.inl ⟨by rfl, fun w hSw => ?_⟩) (by assumption) ?_
                      rotate_left
                      · obtain ⟨hSa, hSb⟩ := hSw
                        go_simp
                        try with_reducible rfl
                      try simp only [Act.put, List.setIfInBounds_toArray, List.set_cons_zero, List.set_cons_succ]
                      refine wpAnyH_ready (rs := [3]) (by kernel_rfl) (by simp) (AllReadyH.cons (o := ⟨some 125, _, _, _, _, _⟩) rfl (fun K hK => ?_) AllReadyH.nil)
                      go_simp
                      refine HDc.out.mono ?_
                      rintro e w8 ⟨rfl, hS8⟩
                      have gm8 := hS8.cell (a := ⟨mb, 0, none⟩) gm (by show ¬ (mb = sb + 1 ∨ mb < mb); omega)
                      have gp8 := hS8.cell (a := ⟨w.heap.size + 1, 0, none⟩) gp (by show ¬ (w.heap.size + 1 = sb + 1 ∨ mb < w.heap.size + 1); omega)
                      refine hK.out _ _ ⟨gm8, gp8⟩ (fun hHeld => ?_)
                      clear hK K
                      try simp only [Act.put, List.setIfInBounds_toArray, List.set_cons_zero, List.set_cons_succ]
                      refine wpAnyH_take (i := 4) (oi := ⟨some 126, _, _, _, _, _⟩) (v := ?_) rfl (by kernel_rfl) (by kernel_rfl) (by kernel_rfl) (fun _ _ _ h => h) (Or.inl ⟨by rfl, fun w hSw => ?_⟩) (by assumption) ?_
                      rotate_left
                      · obtain ⟨hSa, hSb⟩ := hSw
                        go_simp
                        try with_reducible rfl
                      try simp only [Act.put, List.setIfInBounds_toArray, List.set_cons_zero, List.set_cons_succ]
                      refine wpAnyH_take (i := 6) (oi := ⟨some 128, _, _, _, _, _⟩) (v := ?_) rfl (by kernel_rfl) (by kernel_rfl) (by kernel_rfl) (fun _ _ _ h => h) (Or.inl ⟨by rfl, fun w hSw => ?_⟩) (by assumption) ?_
                      rotate_left
                      · obtain ⟨hSa, hSb⟩ := hSw
                        go_simp
                        try with_reducible rfl
                      try simp only [Act.put, List.setIfInBounds_toArray, List.set_cons_zero, List.set_cons_succ]
                      refine wpAnyH_take (i := 7) (oi := ⟨some 11, _, _, _, _, _⟩) (v := ?_) rfl (by kernel_rfl) (by kernel_rfl) (by kernel_rfl) (fun _ _ _ h => h) (Or.inl ⟨by rfl, fun w hSw => ?_⟩) (by assumption) ?_
                      rotate_left
                      · obtain ⟨hSa, hSb⟩ := hSw
                        go_simp
                        try with_reducible rfl
                      try simp only [Act.put, List.setIfInBounds_toArray, List.set_cons_zero, List.set_cons_succ]
                      refine wpAnyH_done (by kernel_rfl) ?_ _
                      have hb8 := (hbk.drewN 1).trans hS8
                      have hbel8 : Below w1.heap.size w1 w8 := hbi5.trans (hb8.below hbi5.size (fun k h => by have := hbi5.size; omega))
                      clear e1 e2
                      go_wp2
                      refine ⟨⟨t + 1, o2, by omega, by go_num, rfl, hol, HOL.out, hbel8⟩, by simp [intOf]; omega⟩
    · obtain rfl : t = n := by omega
      have HR := Lib.hid (HSP.out.trans HF.out)
      go_wp2
      go_ret
      rw [HR.out]
      exact ⟨rfl, hbwr⟩

end Go.Proofs.Ytpfbichomgojoaa
