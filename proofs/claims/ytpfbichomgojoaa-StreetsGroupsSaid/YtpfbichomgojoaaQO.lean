/- Plain: what the reference counts is the number of smallest spanning trees; bounds. -/
import Derived.Test.YtpfbichomgojoaaQN
import Derived.Test.YtpfbichomgojoaaW10
namespace Go.Proofs.Ytpfbichomgojoaa
open Go.RowKit

theorem cnt_bound : ∀ {L : List Nat} {P : List Nat → Bool} {r : Nat}, (∀ S, P S = true → S.length = r) → cntS L P * 2 ^ L.length ≤ 3 ^ L.length * 2 ^ r := by
  intro L
  induction L with
  | nil =>
    intro P r h
    rw [cntS]
    have := Nat.pow_pos (n := r) (show 0 < 2 by omega)
    split <;> simp; omega
  | cons k L ih =>
    intro P r h
    have i1 := ih (P := P) (r := r) h
    rw [cntS, List.length_cons, Nat.pow_succ, Nat.pow_succ]
    rcases r with _ | r
    · have h0 : cntS L (fun S => P (k :: S)) = 0 := cntS_false fun S _ => by
        rw [Bool.eq_false_iff]; intro hp; have := h _ hp; simp at this
      rw [h0, Nat.zero_add]
      have p3 := Nat.pow_pos (n := L.length) (show 0 < 3 by omega)
      have e : cntS L P * (2 ^ L.length * 2) = cntS L P * 2 ^ L.length * 2 := by rw [Nat.mul_assoc]
      omega
    · have i2 := ih (P := fun S => P (k :: S)) (r := r) fun S hS => by have := h _ hS; simpa using this
      rw [Nat.pow_succ] at i1 ⊢
      generalize cntS L P = x at *
      generalize cntS L (fun S => P (k :: S)) = y at *
      generalize 2 ^ L.length = c at *
      generalize 3 ^ L.length = d at *
      generalize 2 ^ r = e at *
      have e1 : (y + x) * (c * 2) = 2 * (x * c) + 2 * (y * c) := by grind
      have e2 : d * 3 * (e * 2) = 2 * (d * (e * 2)) + 2 * (d * e) := by grind
      omega
theorem cntS_pos : ∀ {L S : List Nat} {P : List Nat → Bool}, S.Sublist L → P S = true → 0 < cntS L P := by
  intro L
  induction L with
  | nil =>
    intro S P hS hP
    have : S = [] := List.eq_nil_of_sublist_nil hS
    subst this
    rw [cntS, if_pos hP]; omega
  | cons k L ih =>
    intro S P hS hP
    rw [cntS]
    cases hS with
    | cons _ h => have := ih h hP; omega
    | cons_cons _ h => have := ih (P := fun S => P (k :: S)) h hP; omega
section
variable {n : Nat} {es : List Ed}
theorem mst_pos (hn : Net n es) (hok : firstOk n es = true) : 0 < mstN n es := by
  unfold mstN
  have hF := first_tr hn hok
  refine cntS_pos (S := firstL n es) (by unfold firstL takL; exact List.filter_sublist) ?_
  rw [pB_iff]
  exact ⟨⟨hF.len, hF.rk1, rfl⟩, hF.lt⟩
theorem mst_lt (hn : Net n es) : mstN n es < 998244359987710471 := by
  have h := cnt_bound (L := List.range es.length) (P := fun S => pB (Ms n es S ∧ ∀ x ∈ S, x < es.length)) (r := n - 1) fun S hS => by
    rw [pB_iff] at hS
    have := hS.1.1; omega
  rw [List.length_range] at h
  have hm := hn.len
  have hn16 := hn.n16
  have h' : mstN n es * 2 ^ es.length ≤ 3 ^ es.length * 2 ^ (n - 1) := h
  generalize mstN n es = N at *
  generalize es.length = m at *
  have a1 : N * 2 ^ 60 ≤ 3 ^ 60 * 2 ^ 15 := by
    have e1 : (2 : Nat) ^ 60 = 2 ^ m * 2 ^ (60 - m) := by rw [← Nat.pow_add]; congr 1; omega
    have e2 : (3 : Nat) ^ 60 = 3 ^ m * 3 ^ (60 - m) := by rw [← Nat.pow_add]; congr 1; omega
    have e3 : (2 : Nat) ^ (60 - m) ≤ 3 ^ (60 - m) := Nat.pow_le_pow_left (by omega) _
    have e4 : (2 : Nat) ^ (n - 1) ≤ 2 ^ 15 := Nat.pow_le_pow_right (by omega) (by omega)
    rw [e1, e2]
    calc N * (2 ^ m * 2 ^ (60 - m)) = (N * 2 ^ m) * 2 ^ (60 - m) := by rw [Nat.mul_assoc]
      _ ≤ (3 ^ m * 2 ^ (n - 1)) * 3 ^ (60 - m) := Nat.mul_le_mul h' e3
      _ ≤ (3 ^ m * 2 ^ 15) * 3 ^ (60 - m) := Nat.mul_le_mul_right _ (Nat.mul_le_mul_left _ e4)
      _ = 3 ^ m * 3 ^ (60 - m) * 2 ^ 15 := by grind
  rcases Nat.lt_or_ge N 998244359987710471 with h | h
  · exact h
  · exfalso
    have a2 := Nat.mul_le_mul_right (2 ^ 60) h
    have a3 : (3 : Nat) ^ 60 * 2 ^ 15 < 998244359987710471 * 2 ^ 60 := by decide
    omega
/-- The program counts the smallest spanning trees. -/
theorem cntP_eq (hn : Net n es) (hok : firstOk n es = true) : cntP n es = mstN n es := by
  unfold cntP
  rw [smP_spec hn hok prm1, smP_spec hn hok prm2]
  exact crt_spec (by decide) prm2 (by decide) (Nat.lt_trans (mst_lt hn) (by decide))

theorem prodN_pos {f : Nat → Nat} : ∀ {m : Nat}, 0 < prodN f m → ∀ i, i < m → 0 < f i := by
  intro m
  induction m with
  | zero => intro _ i hi; omega
  | succ m ih =>
    intro h i hi
    rw [prodN] at h
    have h1 := Nat.pos_of_mul_pos_right h
    have h2 := Nat.pos_of_mul_pos_left h
    by_cases e : i = m
    · subst e; assumption
    · exact ih (by assumption) i (by omega)
theorem prodN_part {f : Nat → Nat} {i : Nat} : ∀ {m : Nat}, 0 < prodN f m → i ≤ m → prodN f i ≤ prodN f m := by
  intro m
  induction m with
  | zero => intro _ hi; have : i = 0 := by omega
            subst this; exact Nat.le_refl _
  | succ m ih =>
    intro h hi
    by_cases e : i = m + 1
    · subst e; exact Nat.le_refl _
    · have h0 := prodN_pos h m (by omega)
      have h1 : 0 < prodN f m := by
        rcases Nat.eq_zero_or_pos (prodN f m) with h' | h'
        · rw [prodN, h', Nat.zero_mul] at h; omega
        · exact h'
      rw [prodN]
      exact Nat.le_trans (ih h1 (by omega)) (Nat.le_mul_of_pos_right _ h0)
theorem prodN_factor {f : Nat → Nat} {i m : Nat} (h : 0 < prodN f m) (hi : i < m) : f i ≤ prodN f m := by
  have h1 := prodN_part (i := i + 1) h (by omega)
  rw [prodN] at h1
  have h2 : 0 < prodN f i := by
    rcases Nat.eq_zero_or_pos (prodN f i) with h' | h'
    · exfalso
      have key : ∀ d, prodN f (i + d) = 0 := fun d => by
        induction d with
        | zero => exact h'
        | succ d ih => rw [← Nat.add_assoc, prodN, ih, Nat.zero_mul]
      have := key (m - i)
      rw [show i + (m - i) = m by omega] at this
      omega
    · exact h'
  exact Nat.le_trans (Nat.le_mul_of_pos_left _ h2) h1
theorem lvF_prod (hn : Net n es) (hok : firstOk n es = true) : prodN (lvF n es) 1001 = mstN n es := (mst_prod hn hok).symm
theorem lvF_part (hn : Net n es) (hok : firstOk n es = true) {t : Nat} (ht : t ≤ 1001) : prodN (lvF n es) t ≤ mstN n es := by
  rw [← lvF_prod hn hok]
  exact prodN_part (by rw [lvF_prod hn hok]; exact mst_pos hn hok) ht
theorem lvF_bd (hn : Net n es) (hok : firstOk n es = true) {t : Nat} (ht : t < 1001) : 0 < lvF n es t ∧ lvF n es t ≤ mstN n es := by
  have h0 : 0 < prodN (lvF n es) 1001 := by rw [lvF_prod hn hok]; exact mst_pos hn hok
  exact ⟨prodN_pos h0 t ht, by rw [← lvF_prod hn hok]; exact prodN_factor h0 ht⟩
/-- What one component counts. -/
def cmF (n : Nat) (es : List Ed) (t v : Nat) : Nat := Nn es (comL es (kruG n es (ltE es (t + 1))) t v) (labF n es (ltE es t)) ((comC n (kruG n es (ltE es t)) (kruG n es (ltE es (t + 1))) v).length - 1)
theorem cmF_prod (hn : Net n es) (t : Nat) : prodN (cmF n es t) n = lvF n es t := (lvl_prod hn t).symm
theorem cmF_bd (hn : Net n es) (hok : firstOk n es = true) {t : Nat} (ht : t < 1001) {v : Nat} (hv : v < n) : cmF n es t v ≤ mstN n es := by
  have h0 : 0 < prodN (cmF n es t) n := by rw [cmF_prod hn]; exact (lvF_bd hn hok ht).1
  refine Nat.le_trans (prodN_factor h0 hv) ?_
  rw [cmF_prod hn]; exact (lvF_bd hn hok ht).2

theorem joinL_lab {g : List Nat} {a b a' b' : Nat} (h1 : nat_ g a' = nat_ g a) (h2 : nat_ g b' = nat_ g b) : joinL g a' b' = joinL g a b := by unfold joinL; rw [h1, h2]
theorem kruG_lvl (hn : Net n es) (t : Nat) : kruG n es (ltE es t ++ lvl es t) = kruG n es (ltE es (t + 1)) := by
  have h : ∀ k, k ∈ ltE es t ++ lvl es t ↔ k ∈ ltE es (t + 1) := fun k => by rw [List.mem_append, ltE_succ_mem]
  exact kruG_congr (hn.Ends fun x hx => (mem_ltE.1 ((h x).1 hx)).1) (eLt hn (t + 1)) fun u v _ _ => ⟨fun hc => hc.mono fun k hk => (h k).1 hk, fun hc => hc.mono fun k hk => (h k).2 hk⟩
theorem lvl_take_ends (hn : Net n es) (t q : Nat) (hq : q ≤ es.length) : Ends n es (ltE es t ++ (List.range q).filter (fun k => decide (ew es k = t))) := hn.Ends fun x hx => by
  rcases List.mem_append.1 hx with h | h
  · exact (mem_ltE.1 h).1
  · have := List.mem_range.1 (List.mem_filter.1 h).1; omega
/-- The reference's groups and matrix. -/
theorem foF_spec (hn : Net n es) (t : Nat) : ∀ q, q ≤ es.length →
    (foF n es (kruG n es (ltE es t)) t q).1 = kruG n es (ltE es t ++ (List.range q).filter (fun k => decide (ew es k = t))) ∧
    ∀ i j, i < n → j < n → int_ (rowI (foF n es (kruG n es (ltE es t)) t q).2 i) j = lap es (List.range n) (labF n es (ltE es t)) ((List.range q).filter (fun k => decide (ew es k = t))) i j := by
  have hcan := lab_can hn t
  have hll : ∀ x ∈ kruG n es (ltE es t), x < n := fun x hx => by
    obtain ⟨i, hi, e⟩ := List.mem_iff_getElem.1 hx
    have hi' : i < n := by rw [kruG_length] at hi; exact hi
    have := (hcan.2 i hi').1
    rw [← nat_get hi] at e; omega
  intro q
  induction q with
  | zero =>
    intro _
    refine ⟨by show kruG n es (ltE es t) = _; simp, fun i j _ _ => ?_⟩
    show int_ (rowI (zeroI n) i) j = _
    rw [zeroI_at]; rfl
  | succ q ih =>
    intro hq
    obtain ⟨i1, i2⟩ := ih (by omega)
    have hinv := (foF_inv es t hn.n1 (kruG_length n es _) hll q).2.2.1
    rw [foF_succ, filter_range_snoc]
    generalize foF n es (kruG n es (ltE es t)) t q = st at *
    obtain ⟨after, M⟩ := st
    have i1 : after = kruG n es (ltE es t ++ (List.range q).filter (fun k => decide (ew es k = t))) := i1
    have i2 : ∀ i j, i < n → j < n → int_ (rowI M i) j = lap es (List.range n) (labF n es (ltE es t)) ((List.range q).filter (fun k => decide (ew es k = t))) i j := i2
    have hinv : SqI n M := hinv
    have hE := lvl_take_ends hn t q (by omega)
    obtain ⟨ha, hb⟩ := ed_ends hn (k := q) (by omega)
    have hup : ∀ u v, u < n → v < n → nat_ (kruG n es (ltE es t)) u = nat_ (kruG n es (ltE es t)) v → nat_ after u = nat_ after v := fun u v hu hv h => by
      rw [i1, cn_iff hE hu hv]
      exact ((cn_iff (eLt hn t) hu hv).1 h).mono fun k hk => List.mem_append_left _ hk
    have hlab : ∀ u, u < n → nat_ after (nat_ (kruG n es (ltE es t)) u) = nat_ after u := fun u hu => by
      obtain ⟨h1, h2⟩ := hcan.2 u hu
      exact hup _ _ (by omega) hu h2
    unfold foK
    by_cases hw : ew es q = t
    · have hf : (if decide (ew es q = t) = true then [q] else []) = [q] := by simp [hw]
      rw [hf, ← List.append_assoc, kruG_snoc, ← i1]
      by_cases hl : nat_ (kruG n es (ltE es t)) (ed_ es q).a = nat_ (kruG n es (ltE es t)) (ed_ es q).b
      · rw [if_pos (by unfold foB; simp [hl])]
        refine ⟨(joinL_eq (hup _ _ ha hb hl)).symm, fun i j hi hj => ?_⟩
        rw [lap_append]
        show int_ (rowI M i) j = _
        rw [i2 i j hi hj, lap, lap]
        have hz : ent es (List.range n) (labF n es (ltE es t)) q i j = 0 := by
          have hl' : labF n es (ltE es t) (ea es q) = labF n es (ltE es t) (eb es q) := hl
          unfold ent; rw [hl']; simp
        omega
      · rw [if_neg (by unfold foB; simp [hl, hw])]
        refine ⟨joinL_lab (hlab _ ha) (hlab _ hb), fun i j hi hj => ?_⟩
        rw [lap_append]
        show int_ (rowI (foA M _ _) i) j = _
        have hal : nat_ (kruG n es (ltE es t)) (ed_ es q).a < n := by have := (hcan.2 _ ha).1; omega
        have hbl : nat_ (kruG n es (ltE es t)) (ed_ es q).b < n := by have := (hcan.2 _ hb).1; omega
        have hent : ent es (List.range n) (labF n es (ltE es t)) q i j = (dlt i (nat_ (kruG n es (ltE es t)) (ed_ es q).a) - dlt i (nat_ (kruG n es (ltE es t)) (ed_ es q).b)) * (dlt j (nat_ (kruG n es (ltE es t)) (ed_ es q).a) - dlt j (nat_ (kruG n es (ltE es t)) (ed_ es q).b)) := by
          unfold ent; rw [nat_range hi, nat_range hj]; rfl
        rw [lap, lap, hent, ← i2 i j hi hj]
        generalize nat_ (kruG n es (ltE es t)) (ed_ es q).a = a at *
        generalize nat_ (kruG n es (ltE es t)) (ed_ es q).b = b at *
        have s1 : SqI n (addI 1 M a a) := addI_sq hinv
        have s2 : SqI n (addI (-1) (addI 1 M a a) a b) := addI_sq s1
        have s3 : SqI n (addI 1 (addI (-1) (addI 1 M a a) a b) b b) := addI_sq s2
        have ad : ∀ {d : Int} {M : List (List Int)} {x y : Nat}, SqI n M → x < n → y < n → int_ (rowI (addI d M x y) i) j = int_ (rowI M i) j + dlt i x * dlt j y * d := fun {d M x y} hs hx hy => by
          rw [addI_at (by rw [hs.1]; exact hx) (by rw [hs.2 x hx]; exact hy)]
          unfold dlt
          by_cases e1 : i = x
          · by_cases e2 : j = y
            · subst e1 e2; simp
            · rw [if_neg (fun h => e2 h.2)]; simp [e2]
          · rw [if_neg (fun h => e1 h.1)]; simp [e1]
        unfold foA
        rw [ad s3 hbl hal, ad s2 hbl hbl, ad s1 hal hbl, ad hinv hal hal]
        grind
    · have hf : (if decide (ew es q = t) = true then [q] else []) = [] := by simp [hw]
      rw [hf, List.append_nil, if_pos (by unfold foB; simp [hw])]
      exact ⟨i1, i2⟩
theorem foF_end (hn : Net n es) (t : Nat) : (foF n es (kruG n es (ltE es t)) t es.length).1 = kruG n es (ltE es (t + 1)) ∧
    ∀ i j, i < n → j < n → int_ (rowI (foF n es (kruG n es (ltE es t)) t es.length).2 i) j = lap es (List.range n) (labF n es (ltE es t)) (lvl es t) i j := by
  obtain ⟨h1, h2⟩ := foF_spec hn t es.length (Nat.le_refl _)
  exact ⟨by rw [h1]; exact kruG_lvl hn t, h2⟩
theorem lap_filter {V : List Nat} {g : Nat → Nat} {p : Nat → Bool} {i j : Nat} : ∀ {L : List Nat}, (∀ k ∈ L, p k = false → ent es V g k i j = 0) → lap es V g (L.filter p) i j = lap es V g L i j := by
  intro L
  induction L with
  | nil => intro _; rfl
  | cons k L ih =>
    intro h
    have ih := ih fun k hk => h k (List.mem_cons_of_mem _ hk)
    rw [List.filter_cons, lap]
    cases hp : p k with
    | true => rw [if_pos rfl, lap, ih]
    | false => rw [if_neg (by simp), ih, h k (List.mem_cons_self ..) hp]; omega
theorem detI_spec {p : Nat} (hp : Prm p) {R : List (List Int)} {s : Nat} (hs : SqI s R) : detI p R < p ∧ Cg p (detI p R) (det s (fun i j => int_ (rowI R i) j)) := by
  have hsq : Sq s (nrmM p R) := ⟨by simp [nrmM, hs.1], fun i hi => by
    have hi2 : i < R.length := by rw [hs.1]; exact hi
    have := hs.2 i hi
    rw [rowI_get hi2] at this
    unfold nrmM
    rw [row_get (by simpa using hi2)]; simp [nrmR, this]⟩
  have hl := nrmM_lt (p := p) (by have := hp.1; omega) R
  obtain ⟨h1, h2⟩ := detP_spec hp hsq hl
  refine ⟨h1, h2.trans (Cg.det fun i j hi hj => ?_)⟩
  unfold blkM
  rw [Nat.zero_add, Nat.zero_add]
  have hi2 : i < R.length := by rw [hs.1]; exact hi
  have hj2 : j < (rowI R i).length := by rw [hs.2 i hi]; exact hj
  have e : nat_ (row_ (nrmM p R) i) j = (int_ (rowI R i) j % (p : Int)).toNat := by
    unfold nrmM
    rw [row_get (by simpa using hi2), List.getElem_map, ← rowI_get hi2]
    unfold nrmR
    rw [nat_get (by simpa using hj2), List.getElem_map, int_get hj2]
  rw [e]
  have h3 := Int.emod_nonneg (int_ (rowI R i) j) (show (p : Int) ≠ 0 by have := hp.1; omega)
  rw [Int.toNat_of_nonneg h3]
  exact Cg.emod _
theorem foR_sq (M : List (List Int)) (P : List Nat) : SqI P.length (foR M P) := ⟨by simp [foR], fun i hi => by unfold foR; rw [rowI_get (by simpa using hi)]; simp⟩
theorem foR_at {M : List (List Int)} {P : List Nat} {i j : Nat} (hi : i < P.length) (hj : j < P.length) : int_ (rowI (foR M P) i) j = int_ (rowI M (nat_ P i)) (nat_ P j) := by
  unfold foR
  rw [rowI_get (by simpa using hi), List.getElem_map, int_get (by simpa using hj), List.getElem_map, nat_get hi, nat_get hj]
/-- One component of the reference. -/
theorem foV_root (hn : Net n es) (hok : firstOk n es = true) {t v : Nat} (ht : t < 1001) (hv : v < n) (hr : nat_ (kruG n es (ltE es (t + 1))) v = v) {M : List (List Int)}
    (hM : ∀ i j, i < n → j < n → int_ (rowI M i) j = lap es (List.range n) (labF n es (ltE es t)) (lvl es t) i j) :
    crtN 1000000007 998244353 (detI 1000000007 (foR M (foC n (kruG n es (ltE es t)) (kruG n es (ltE es (t + 1))) v))) (detI 998244353 (foR M (foC n (kruG n es (ltE es t)) (kruG n es (ltE es (t + 1))) v))) = cmF n es t v := by
  have hA := lab_can hn t
  have hB := lab_can hn (t + 1)
  have hCm : ∀ u, u ∈ comC n (kruG n es (ltE es t)) (kruG n es (ltE es (t + 1))) v ↔ u ∈ v :: foC n (kruG n es (ltE es t)) (kruG n es (ltE es (t + 1))) v := fun u => by
    rw [mem_comC, List.mem_cons]
    unfold foC
    rw [List.mem_filter, List.mem_range'_1, Bool.and_eq_true, decide_eq_true_eq, decide_eq_true_eq]
    have hgv : nat_ (kruG n es (ltE es t)) v = v := by
      obtain ⟨h1, h2⟩ := hA.2 v hv
      have h3 := lab_lab hn t hv
      have h4 := (hB.2 (nat_ (kruG n es (ltE es t)) v) (by omega)).1
      unfold labF at h3
      omega
    constructor
    · rintro ⟨h1, h2, h3⟩
      have := (hB.2 u h1).1
      rcases Nat.lt_or_ge v u with h | h
      · exact .inr ⟨by omega, h2, h3⟩
      · left; omega
    · rintro (rfl | ⟨h1, h2, h3⟩)
      · exact ⟨hv, hgv, hr⟩
      · exact ⟨by omega, h2, h3⟩
  have hnd : (foC n (kruG n es (ltE es t)) (kruG n es (ltE es (t + 1))) v).Nodup := asc_nodup (List.Pairwise.filter _ List.pairwise_lt_range')
  have hvn : v ∉ foC n (kruG n es (ltE es t)) (kruG n es (ltE es (t + 1))) v := fun h => by
    unfold foC at h
    have := (List.mem_filter.1 h).1
    rw [List.mem_range'_1] at this; omega
  have hlen : (comC n (kruG n es (ltE es t)) (kruG n es (ltE es (t + 1))) v).length - 1 = (foC n (kruG n es (ltE es t)) (kruG n es (ltE es (t + 1))) v).length := by
    have := nodup_len (comC_nodup n (kruG n es (ltE es t)) (kruG n es (ltE es (t + 1))) v) (List.nodup_cons.2 ⟨hvn, hnd⟩) hCm
    rw [List.length_cons] at this; omega
  have hPlt : ∀ x ∈ foC n (kruG n es (ltE es t)) (kruG n es (ltE es (t + 1))) v, x < n := fun x hx => foC_mem hx
  have hmt := mt _ (comL es (kruG n es (ltE es (t + 1))) t v) (labF n es (ltE es t)) _ v rfl hnd hvn fun k hk => by
    obtain ⟨h1, h2⟩ := com_lab hn t hk
    rw [hCm, List.mem_cons] at h1 h2
    exact ⟨h1, h2⟩
  have hN : cmF n es t v = Nn es (comL es (kruG n es (ltE es (t + 1))) t v) (labF n es (ltE es t)) (foC n (kruG n es (ltE es t)) (kruG n es (ltE es (t + 1))) v).length := by unfold cmF; rw [hlen]
  have hdet : ∀ {p : Nat}, Prm p → detI p (foR M (foC n (kruG n es (ltE es t)) (kruG n es (ltE es (t + 1))) v)) = cmF n es t v % p := fun {p} hp => by
    obtain ⟨h1, h2⟩ := detI_spec hp (foR_sq M (foC n (kruG n es (ltE es t)) (kruG n es (ltE es (t + 1))) v))
    refine Cg.eq (h2.trans ?_) h1 (Nat.mod_lt _ (by have := hp.1; omega))
    rw [hN]
    refine Cg.trans (Cg.of_eq ?_) (Cg.mod _).symm
    rw [← hmt]
    refine det_congr fun i j hi hj => ?_
    rw [foR_at hi hj, hM _ _ (hPlt _ (nat_mem hi)) (hPlt _ (nat_mem hj))]
    have e1 : ∀ L : List Nat, lap es (List.range n) (labF n es (ltE es t)) L (nat_ (foC n (kruG n es (ltE es t)) (kruG n es (ltE es (t + 1))) v) i) (nat_ (foC n (kruG n es (ltE es t)) (kruG n es (ltE es (t + 1))) v) j) =
        lap es (foC n (kruG n es (ltE es t)) (kruG n es (ltE es (t + 1))) v) (labF n es (ltE es t)) L i j := fun L => by
      induction L with
      | nil => rfl
      | cons k L ih =>
        rw [lap, lap, ih]
        congr 1
        unfold ent
        rw [nat_range (hPlt _ (nat_mem hi)), nat_range (hPlt _ (nat_mem hj))]
    rw [e1]
    symm
    refine lap_filter fun k hk hp' => ?_
    obtain ⟨ha, hb⟩ := ed_ends hn (mem_lvl.1 hk).1
    have hne : nat_ (kruG n es (ltE es (t + 1))) (ea es k) ≠ v := by simpa using hp'
    have hz : ∀ x, x < n → nat_ (kruG n es (ltE es (t + 1))) x ≠ v → dlt (nat_ (foC n (kruG n es (ltE es t)) (kruG n es (ltE es (t + 1))) v) i) (labF n es (ltE es t) x) = 0 := fun x hx hxv => by
      unfold dlt
      rw [if_neg]
      intro e
      have hm := nat_mem hi
      rw [e] at hm
      unfold foC at hm
      rw [List.mem_filter, Bool.and_eq_true, decide_eq_true_eq, decide_eq_true_eq] at hm
      have h3 := lab_lab hn t hx
      unfold labF at h3 hm
      exact hxv (by rw [← h3]; exact hm.2.2)
    have hz1 := hz _ ha hne
    have hz2 := hz _ hb (by
      have := lab_lvl hn t hk
      unfold labF at this
      intro e; exact hne (this.trans e))
    have hz1' : dlt (nat_ (foC n (kruG n es (ltE es t)) (kruG n es (ltE es (t + 1))) v) i) (labF n es (ltE es t) (ea es k)) = 0 := hz1
    have hz2' : dlt (nat_ (foC n (kruG n es (ltE es t)) (kruG n es (ltE es (t + 1))) v) i) (labF n es (ltE es t) (eb es k)) = 0 := hz2
    unfold ent
    rw [hz1', hz2']; simp
  rw [hdet prm3, hdet prm4]
  exact crt_spec (by decide) prm4 (by decide) (Nat.lt_of_le_of_lt (cmF_bd hn hok ht hv) (Nat.lt_of_lt_of_le (mst_lt hn) (by decide)))
theorem foQ_spec (hn : Net n es) (hok : firstOk n es = true) {t : Nat} (ht : t < 1001) : ∀ q, q ≤ n → foQ n es (kruG n es (ltE es t)) t q = prodN (cmF n es t) q := by
  intro q
  induction q with
  | zero => intro _; rfl
  | succ q ih =>
    intro hq
    obtain ⟨h1, h2⟩ := foF_end hn t
    have hs : foQ n es (kruG n es (ltE es t)) t (q + 1) = foV n (kruG n es (ltE es t)) (foF n es (kruG n es (ltE es t)) t es.length).1 (foF n es (kruG n es (ltE es t)) t es.length).2 (foQ n es (kruG n es (ltE es t)) t q) q := by
      unfold foQ; exact foldl_range
    rw [hs, ih (by omega), prodN, h1]
    unfold foV
    by_cases hr : nat_ (kruG n es (ltE es (t + 1))) q = q
    · rw [if_pos hr, foV_root hn hok ht (by omega) hr h2]
    · rw [if_neg hr]
      have hz : comC n (kruG n es (ltE es t)) (kruG n es (ltE es (t + 1))) q = [] := by
        rw [List.eq_nil_iff_forall_not_mem]
        intro v hv
        obtain ⟨h1, h2, h3⟩ := mem_comC.1 hv
        have := ((lab_can hn (t + 1)).2 v h1).2
        rw [h3] at this
        exact hr this
      have : cmF n es t q = 1 := by unfold cmF; rw [hz]; exact Nn_zero
      rw [this, Nat.mul_one]
theorem foP_spec (hn : Net n es) (hok : firstOk n es = true) {t : Nat} (ht : t < 1001) : foP n es (kruG n es (ltE es t)) t = lvF n es t := by
  unfold foP; rw [foQ_spec hn hok ht n (Nat.le_refl _), cmF_prod hn]
theorem rcJ_spec (_ : Net n es) (t : Nat) : ∀ q, q ≤ es.length → (List.range q).foldl (rcJ es t) (kruG n es (ltE es t)) = kruG n es (ltE es t ++ (List.range q).filter (fun k => decide (ew es k = t))) := by
  intro q
  induction q with
  | zero => intro _; simp
  | succ q ih =>
    intro hq
    rw [foldl_range, ih (by omega), filter_range_snoc]
    unfold rcJ
    by_cases hw : ew es q = t
    · have hf : (if decide (ew es q = t) = true then [q] else []) = [q] := by simp [hw]
      rw [hf, ← List.append_assoc, kruG_snoc, if_pos hw]
    · have hf : (if decide (ew es q = t) = true then [q] else []) = [] := by simp [hw]
      rw [hf, List.append_nil, if_neg hw]
def wtU (es : List Ed) (q : Nat) : Nat := if q = 0 then 0 else ew es (nat_ (ordL es) (q - 1)) + 1
theorem wtU_gap {q : Nat} (hq : q < es.length) (hb : rcB es (ordL es) q = false) : wtU es q ≤ ew es (nat_ (ordL es) q) ∧ ∀ k, k < es.length → ew es k < wtU es q ∨ ew es (nat_ (ordL es) q) ≤ ew es k := by
  refine ⟨?_, fun k hk => ?_⟩
  · unfold wtU
    by_cases h0 : q = 0
    · rw [if_pos h0]; omega
    · rw [if_neg h0]
      have := ord_le (es := es) (i := q - 1) (j := q) (by omega) hq
      unfold rcB at hb
      simp only [show 0 < q by omega, decide_true, Bool.true_and, decide_eq_false_iff_not] at hb
      omega
  · obtain ⟨i, hi, e⟩ := ord_idx hk
    rcases Nat.lt_or_ge i q with h | h
    · left
      unfold wtU
      rw [if_neg (by omega)]
      have := ord_le (es := es) (i := i) (j := q - 1) (by omega) (by omega)
      rw [← e]; omega
    · right
      have := ord_le (es := es) (i := q) (j := i) h hi
      rw [← e]; exact this
theorem rcF_spec (hn : Net n es) (hok : firstOk n es = true) : ∀ q, q ≤ es.length → rcF n es q = (prodN (lvF n es) (wtU es q), kruG n es (ltE es (wtU es q))) := by
  intro q
  induction q with
  | zero =>
    intro _
    have h2 : ltE es 0 = [] := by unfold ltE; rw [List.filter_eq_nil_iff]; intro k _; simp
    show (1, List.range n) = (1, kruG n es (ltE es 0))
    rw [h2]; rfl
  | succ q ih =>
    intro hq
    rw [rcF_succ, ih (by omega)]
    have hU1 : wtU es (q + 1) = ew es (nat_ (ordL es) q) + 1 := by unfold wtU; rw [if_neg (by omega), Nat.add_sub_cancel]
    unfold rcS
    cases hb : rcB es (ordL es) q with
    | true =>
      rw [if_pos rfl]
      unfold rcB at hb
      simp only [Bool.and_eq_true, decide_eq_true_eq] at hb
      have : wtU es q = wtU es (q + 1) := by rw [hU1]; unfold wtU; rw [if_neg (by omega), hb.2]
      rw [this]
    | false =>
      rw [if_neg (by simp)]
      obtain ⟨hle, hgap⟩ := wtU_gap (es := es) (by omega) hb
      have hG := ltE_gap hle hgap
      have hP := lvF_gap (n := n) hle hgap
      have hw := ew_le hn (nat_ (ordL es) q)
      dsimp only
      rw [← hG, ← hP, foP_spec hn hok (by omega), rcJ_spec hn _ es.length (Nat.le_refl _), hU1, prodN]
      have := kruG_lvl hn (ew es (nat_ (ordL es) q))
      unfold lvl at this
      rw [this]
theorem wtU_le (hn : Net n es) (q : Nat) : wtU es q ≤ 1001 := by
  unfold wtU; split
  · omega
  · have := ew_le hn (nat_ (ordL es) (q - 1)); omega
/-- The reference counts the smallest spanning trees. -/
theorem rcP_eq (hn : Net n es) (hok : firstOk n es = true) : rcP n es = mstN n es := by
  unfold rcP
  rw [rcF_spec hn hok _ (Nat.le_refl _), ← lvF_prod hn hok]
  show prodN (lvF n es) (wtU es es.length) = _
  symm
  refine lvF_gap (wtU_le hn _) fun k hk => ?_
  left
  obtain ⟨i, hi, e⟩ := ord_idx hk
  unfold wtU
  rw [if_neg (by omega)]
  have := ord_le (es := es) (i := i) (j := es.length - 1) (by omega) (by omega)
  rw [← e]; omega
theorem rcF_bd (hn : Net n es) (hok : firstOk n es = true) : ∀ q, q ≤ es.length → (rcF n es q).1 ≤ 4611686018427387904 := fun q hq => by
  rw [rcF_spec hn hok q hq]
  have := lvF_part hn hok (wtU_le hn q)
  have := mst_lt hn
  show prodN (lvF n es) (wtU es q) ≤ _
  omega
theorem foQ_bd (hn : Net n es) (hok : firstOk n es = true) : ∀ i, i < es.length → rcB es (ordL es) i = false → ∀ q, q ≤ n → foQ n es (rcF n es i).2 (ew es (nat_ (ordL es) i)) q ≤ 4611686018427387904 := fun i hi hb q hq => by
  rw [rcF_spec hn hok i (by omega)]
  obtain ⟨hle, hgap⟩ := wtU_gap (es := es) hi hb
  have hG := ltE_gap hle hgap
  have hw := ew_le hn (nat_ (ordL es) i)
  show foQ n es (kruG n es (ltE es (wtU es i))) _ q ≤ _
  rw [← hG, foQ_spec hn hok (by omega) q hq]
  have h0 : 0 < prodN (cmF n es (ew es (nat_ (ordL es) i))) n := by rw [cmF_prod hn]; exact (lvF_bd hn hok (by omega)).1
  have h1 := prodN_part h0 hq
  rw [cmF_prod hn] at h1
  have := (lvF_bd hn hok (t := ew es (nat_ (ordL es) i)) (by omega)).2
  have := mst_lt hn
  omega
theorem RCount_n (E : Option Addr) (m ce : Nat) (w : World) (he : RdE w E m es) (hnet : Net n es) :
    Calls Try.prog 19 #[.int .i64 (n : Int), .slice E m ce] w fun e w' => e = .returned (.int .i64 ((rcV n es : Nat) : Int)) ∧ Below w.heap.size w w' :=
  RCount_c n E m ce es w he hnet (fun h => rcF_bd hnet h) (fun h => foQ_bd hnet h)
theorem rcV_eq (hn : Net n es) (hok : firstOk n es = true) : rcV n es = mstN n es := by unfold rcV; rw [hok]; exact rcP_eq hn hok
end

end Go.Proofs.Ytpfbichomgojoaa
