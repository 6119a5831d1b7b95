/- Plain: how many smallest spanning trees there are, weight by weight. -/
import Derived.Test.YtpfbichomgojoaaQT
import Derived.Test.YtpfbichomgojoaaQR
namespace Go.Proofs.Ytpfbichomgojoaa

noncomputable def pB (p : Prop) : Bool := @decide p (Classical.propDecidable p)
theorem pB_iff {p : Prop} : pB p = true ↔ p := by unfold pB; exact @decide_eq_true_iff p (Classical.propDecidable p)
theorem pB_congr {p q : Prop} (h : p ↔ q) : pB p = pB q := by rw [Bool.eq_iff_iff, pB_iff, pB_iff]; exact h
theorem pB_and {p q r : Prop} (h : p ↔ q ∧ r) : pB p = (pB q && pB r) := by rw [Bool.eq_iff_iff, Bool.and_eq_true, pB_iff, pB_iff, pB_iff]; exact h

/-- How many sets of streets have a property. -/
def cntS : List Nat → (List Nat → Bool) → Nat
  | [], P => if P [] then 1 else 0
  | k :: L, P => cntS L (fun S => P (k :: S)) + cntS L P
theorem cntS_congr : ∀ {L : List Nat} {P Q : List Nat → Bool}, (∀ S, S.Sublist L → P S = Q S) → cntS L P = cntS L Q := by
  intro L
  induction L with
  | nil => intro P Q h; rw [cntS, cntS, h [] (List.Sublist.refl _)]
  | cons k L ih =>
    intro P Q h
    rw [cntS, cntS, ih fun S hS => h S (hS.cons k), ih fun S hS => h (k :: S) (hS.cons_cons k)]
theorem cntS_false : ∀ {L : List Nat} {P : List Nat → Bool}, (∀ S, S.Sublist L → P S = false) → cntS L P = 0 := by
  intro L
  induction L with
  | nil => intro P h; rw [cntS, h [] (List.Sublist.refl _)]; rfl
  | cons k L ih =>
    intro P h
    rw [cntS, ih fun S hS => h S (hS.cons k), ih fun S hS => h (k :: S) (hS.cons_cons k)]
theorem cntS_mul : ∀ {A B : List Nat} {R P Q : List Nat → Bool}, (∀ S T, S.Sublist A → T.Sublist B → R (S ++ T) = (P S && Q T)) → cntS (A ++ B) R = cntS A P * cntS B Q := by
  intro A
  induction A with
  | nil =>
    intro B R P Q h
    rw [List.nil_append, cntS]
    have h0 := fun T hT => h [] T (List.Sublist.refl _) hT
    simp only [List.nil_append] at h0
    cases hp : P [] with
    | false => rw [cntS_false fun T hT => by rw [h0 T hT, hp]; rfl]; simp
    | true => rw [cntS_congr (Q := Q) fun T hT => by rw [h0 T hT, hp]; rfl]; simp
  | cons k A ih =>
    intro B R P Q h
    rw [List.cons_append, cntS, cntS, ih (P := fun S => P (k :: S)) (Q := Q) fun S T hS hT => h (k :: S) T (hS.cons_cons k) hT, ih (P := P) (Q := Q) fun S T hS hT => h S T (hS.cons k) hT, Nat.add_mul]
def PInv (P : List Nat → Bool) : Prop := ∀ S S' : List Nat, S.Perm S' → P S = P S'
theorem cntS_perm {L L' : List Nat} (h : L.Perm L') : ∀ {P : List Nat → Bool}, PInv P → cntS L P = cntS L' P := by
  induction h with
  | nil => intro P _; rfl
  | cons k _ ih => intro P hP; rw [cntS, cntS, ih hP, ih fun S S' hS => hP _ _ (hS.cons k)]
  | trans _ _ ih1 ih2 => intro P hP; rw [ih1 hP, ih2 hP]
  | swap k j L =>
    intro P hP
    rw [cntS, cntS, cntS, cntS, cntS, cntS]
    have : cntS L (fun S => P (j :: k :: S)) = cntS L (fun S => P (k :: j :: S)) := cntS_congr fun S _ => hP _ _ (List.Perm.swap k j S)
    omega
theorem cntS_snoc {L : List Nat} {k : Nat} : ∀ {P : List Nat → Bool}, cntS (L ++ [k]) P = cntS L (fun S => P (S ++ [k])) + cntS L P := by
  induction L with
  | nil => intro P; rfl
  | cons j L ih => intro P; rw [List.cons_append, cntS, cntS, cntS, ih, ih]; simp only [List.cons_append]; omega

/-- All streets of S are taken. -/
def accB (es : List Ed) : List Nat → (Nat → Nat) → Bool
  | [], _ => true
  | k :: S, g => decide (g (ea es k) ≠ g (eb es k)) && accB es S (rel g (g (ea es k)) (g (eb es k)))
section
variable {n : Nat} {es : List Ed}
theorem Nn_cnt : ∀ {L : List Nat} {g : Nat → Nat} {r : Nat}, Nn es L g r = cntS L (fun S => accB es S g && decide (S.length = r)) := by
  intro L
  induction L with
  | nil => intro g r; rw [Nn, cntS]; simp [accB, eq_comm]
  | cons k L ih =>
    intro g r
    rw [cntS]
    by_cases hl : g (ea es k) = g (eb es k)
    · have h0 : cntS L (fun S => accB es (k :: S) g && decide ((k :: S).length = r)) = 0 := cntS_false fun S _ => by simp [accB, hl]
      have h1 : cntS L (fun S => accB es S g && decide (S.length = r)) = Nn es L g r := ih.symm
      rw [Nn_loop hl, h0, h1]; omega
    · rcases r with _ | r
      · rw [Nn_zero, cntS_false fun S _ => by simp, ← ih, Nn_zero]
      · rw [Nn_step hl, ih, ih, Nat.add_comm]
        congr 1
        exact cntS_congr fun S _ => by simp [accB, hl]
theorem accB_sim : ∀ {S : List Nat} {g g' : Nat → Nat}, (∀ x y, Vtx es S x → Vtx es S y → (g x = g y ↔ g' x = g' y)) → accB es S g = accB es S g' := by
  intro S
  induction S with
  | nil => intro g g' _; rfl
  | cons k S ih =>
    intro g g' h
    have hk := h _ _ Vtx.head_a Vtx.head_b
    rw [accB, accB]
    have e : decide (g (ea es k) ≠ g (eb es k)) = decide (g' (ea es k) ≠ g' (eb es k)) := by rw [decide_eq_decide]; exact not_congr hk
    rw [e]
    congr 1
    refine ih fun x y hx hy => ?_
    rw [rel_eq, rel_eq, h x y hx.tail hy.tail, h x _ hx.tail Vtx.head_a, h x _ hx.tail Vtx.head_b, h _ y Vtx.head_b hy.tail, h _ y Vtx.head_a hy.tail]
theorem vtx_lt {S : List Nat} (hS : Ends n es S) {x : Nat} (h : Vtx es S x) : x < n := by
  obtain ⟨k, hk, h⟩ := h
  obtain ⟨h1, h2⟩ := hS k hk
  rcases h with rfl | rfl
  · exact h1
  · exact h2
def labF (n : Nat) (es : List Ed) (A : List Nat) (v : Nat) : Nat := nat_ (kruG n es A) v
theorem acc_rk : ∀ {S A : List Nat}, Ends n es A → Ends n es S → accB es S (labF n es A) = decide (rk n es (A ++ S) = rk n es A + S.length) := by
  intro S
  induction S with
  | nil => intro A _ _; simp [accB]
  | cons k S ih =>
    intro A hA hS
    obtain ⟨ha, hb⟩ := hS k (List.mem_cons_self ..)
    have hS' : Ends n es S := hS.sub fun j hj => List.mem_cons_of_mem _ hj
    have hk : Ends n es [k] := fun j hj => by rw [List.mem_singleton.1 hj]; exact ⟨ha, hb⟩
    have e : A ++ k :: S = (A ++ [k]) ++ S := by simp
    rw [accB, e]
    have hsim : accB es S (rel (labF n es A) (labF n es A (ea es k)) (labF n es A (eb es k))) = accB es S (labF n es (A ++ [k])) := accB_sim fun x y hx hy => by
      rw [rel_eq]
      unfold labF
      rw [kruG_snoc, nat_join_eq (by rw [kruG_length]; exact vtx_lt hS' hx) (by rw [kruG_length]; exact vtx_lt hS' hy)]
      exact Iff.rfl
    rw [hsim, ih (hA.append hk) hS', Bool.eq_iff_iff]
    simp only [Bool.and_eq_true, decide_eq_true_eq, List.length_cons]
    have h1 := (rk_append (n := n) (es := es) (A ++ [k]) S).1
    have h2 := rk_snoc_le (n := n) (es := es) A k
    have hlab : labF n es A (ea es k) = labF n es A (eb es k) ↔ Con es (· ∈ A) (ed_ es k).a (ed_ es k).b := cn_iff hA ha hb
    by_cases hc : Con es (· ∈ A) (ed_ es k).a (ed_ es k).b
    · have := rk_no hA hk hc
      constructor
      · rintro ⟨h, _⟩; exact absurd (hlab.2 hc) h
      · intro h; omega
    · have := rk_yes hA hk hc
      constructor
      · rintro ⟨_, h⟩; omega
      · intro h; exact ⟨fun e => hc (hlab.1 e), by omega⟩

/-- The streets of a weight less than t, and of weight t. -/
def ltE (es : List Ed) (t : Nat) : List Nat := (List.range es.length).filter (fun k => decide (ew es k < t))
def lvl (es : List Ed) (t : Nat) : List Nat := (List.range es.length).filter (fun k => decide (ew es k = t))
theorem mem_ltE {t x : Nat} : x ∈ ltE es t ↔ x < es.length ∧ ew es x < t := by simp [ltE]
theorem mem_lvl {t x : Nat} : x ∈ lvl es t ↔ x < es.length ∧ ew es x = t := by simp [lvl]
theorem lvl_nodup (es : List Ed) (t : Nat) : (lvl es t).Nodup := List.nodup_range.filter _
def rT (n : Nat) (es : List Ed) (t : Nat) : Nat := rk n es (ltE es (t + 1)) - rk n es (ltE es t)
def cat (es : List Ed) : Nat → List Nat
  | 0 => []
  | t + 1 => cat es t ++ lvl es t
theorem mem_cat {t x : Nat} : x ∈ cat es t ↔ x < es.length ∧ ew es x < t := by
  induction t with
  | zero => simp [cat]
  | succ t ih => rw [cat, List.mem_append, ih, mem_lvl]; omega
theorem cat_nodup (t : Nat) : (cat es t).Nodup := by
  induction t with
  | zero => exact List.nodup_nil
  | succ t ih =>
    rw [cat, List.nodup_append]
    refine ⟨ih, List.nodup_range.filter _, fun x hx y hy => ?_⟩
    have := mem_cat.1 hx
    have := mem_lvl.1 hy
    rintro rfl; omega
/-- No way round, and each lighter street's ends are connected by no heavier ones. -/
def Qt (n : Nat) (es : List Ed) (t : Nat) (S : List Nat) : Prop := rk n es S = S.length ∧ ∀ k, k < es.length → ew es k < t → Con es (fun x => x ∈ S ∧ ew es x ≤ ew es k) (ed_ es k).a (ed_ es k).b
theorem Qt_step (hn : Net n es) {t : Nat} {S T : List Nat} (hS : S.Sublist (cat es t)) (hT : T.Sublist (lvl es t)) :
    Qt n es (t + 1) (S ++ T) ↔ Qt n es t S ∧ (rk n es (ltE es t ++ T) = rk n es (ltE es t) + T.length ∧ T.length = rT n es t) := by
  have hSm : ∀ x ∈ S, x < es.length ∧ ew es x < t := fun x hx => mem_cat.1 (hS.subset hx)
  have hTm : ∀ x ∈ T, x < es.length ∧ ew es x = t := fun x hx => mem_lvl.1 (hT.subset hx)
  have eS : Ends n es S := hn.Ends fun x hx => (hSm x hx).1
  have eT : Ends n es T := hn.Ends fun x hx => (hTm x hx).1
  have eL : Ends n es (ltE es t) := hn.Ends fun x hx => (mem_ltE.1 hx).1
  have eL1 : Ends n es (ltE es (t + 1)) := hn.Ends fun x hx => (mem_ltE.1 hx).1
  have hmono : rk n es (ltE es t) ≤ rk n es (ltE es (t + 1)) := rk_mono eL1 fun x hx => by have := mem_ltE.1 hx; exact mem_ltE.2 ⟨this.1, by omega⟩
  have key : Qt n es t S → rk n es S = rk n es (ltE es t) ∧ rk n es (S ++ T) = rk n es (ltE es t ++ T) := fun h => by
    have hc : ∀ {u v}, Con es (· ∈ ltE es t) u v → Con es (· ∈ S) u v := fun h2 => h2.of fun k hk => by
      have := mem_ltE.1 hk
      exact (h.2 k this.1 this.2).mono fun x hx => hx.1
    have hc2 : ∀ {u v}, Con es (· ∈ S) u v → Con es (· ∈ ltE es t) u v := fun h2 => h2.mono fun k hk => mem_ltE.2 (hSm k hk)
    refine ⟨rk_congr eS eL fun u v _ _ => ⟨hc2, hc⟩, rk_congr (eS.append eT) (eL.append eT) fun u v _ _ => ⟨fun h2 => h2.of fun k hk => ?_, fun h2 => h2.of fun k hk => ?_⟩⟩
    · rcases List.mem_append.1 hk with hk | hk
      · exact Con.edge (P := (· ∈ ltE es t ++ T)) (List.mem_append_left _ (mem_ltE.2 (hSm k hk)))
      · exact Con.edge (P := (· ∈ ltE es t ++ T)) (List.mem_append_right _ hk)
    · rcases List.mem_append.1 hk with hk | hk
      · exact (hc (Con.edge hk)).mono fun x hx => List.mem_append_left _ hx
      · exact Con.edge (P := (· ∈ S ++ T)) (List.mem_append_right _ hk)
  have hsub : ∀ x ∈ S ++ T, x ∈ ltE es (t + 1) := fun x hx => by
    rcases List.mem_append.1 hx with hx | hx
    · have := hSm x hx; exact mem_ltE.2 ⟨this.1, by omega⟩
    · have := hTm x hx; exact mem_ltE.2 ⟨this.1, by omega⟩
  constructor
  · rintro ⟨h1, h2⟩
    have hQS : Qt n es t S := by
      refine ⟨?_, fun k hk hw => (h2 k hk (by omega)).mono fun x hx => ⟨?_, hx.2⟩⟩
      · have a1 := (rk_append (n := n) (es := es) S T).1
        have a2 := rk_le_len (n := n) (es := es) S
        rw [List.length_append] at h1; omega
      · rcases List.mem_append.1 hx.1 with h | h
        · exact h
        · have := hTm x h; omega
    obtain ⟨k1, k2⟩ := key hQS
    have h3 : rk n es (ltE es (t + 1)) ≤ rk n es (S ++ T) := rk_le_con eL1 (eS.append eT) fun k hk => by
      have := mem_ltE.1 hk
      exact (h2 k this.1 this.2).mono fun x hx => hx.1
    have h4 : rk n es (S ++ T) ≤ rk n es (ltE es (t + 1)) := rk_mono eL1 hsub
    rw [List.length_append] at h1
    have := hQS.1
    refine ⟨hQS, by omega, ?_⟩
    unfold rT; omega
  · rintro ⟨hQS, h1, h2⟩
    obtain ⟨k1, k2⟩ := key hQS
    have h0 := hQS.1
    unfold rT at h2
    refine ⟨by rw [List.length_append]; omega, fun k hk hw => ?_⟩
    by_cases hkt : ew es k < t
    · exact (hQS.2 k hk hkt).mono fun x hx => ⟨List.mem_append_left _ hx.1, hx.2⟩
    · have hkt : ew es k = t := by omega
      have hcon := con_of_rk (S := S ++ T) eL1 hsub (by omega) (Con.edge (es := es) (P := (· ∈ ltE es (t + 1))) (mem_ltE.2 ⟨hk, by omega⟩))
      exact hcon.mono fun x hx => ⟨hx, by have := mem_ltE.1 (hsub x hx); omega⟩
def prodN (f : Nat → Nat) : Nat → Nat
  | 0 => 1
  | n + 1 => prodN f n * f n
theorem prodN_congr {f g : Nat → Nat} {m : Nat} (h : ∀ i, i < m → f i = g i) : prodN f m = prodN g m := by
  induction m with
  | zero => rfl
  | succ m ih => rw [prodN, prodN, ih (fun i hi => h i (by omega)), h m (by omega)]
theorem cat_count (hn : Net n es) (t : Nat) : cntS (cat es t) (fun S => pB (Qt n es t S)) = prodN (fun t => Nn es (lvl es t) (labF n es (ltE es t)) (rT n es t)) t := by
  induction t with
  | zero =>
    rw [cat, cntS, prodN, if_pos]
    rw [pB_iff]
    exact ⟨rfl, fun k _ h => by omega⟩
  | succ t ih =>
    rw [cat, prodN, ← ih, Nn_cnt]
    refine cntS_mul fun S T hS hT => ?_
    have eT : Ends n es T := hn.Ends fun x hx => (mem_lvl.1 (hT.subset hx)).1
    have eL : Ends n es (ltE es t) := hn.Ends fun x hx => (mem_ltE.1 hx).1
    rw [acc_rk eL eT, Bool.eq_iff_iff, Bool.and_eq_true, Bool.and_eq_true, pB_iff, pB_iff, decide_eq_true_eq, decide_eq_true_eq]
    exact Qt_step hn hS hT
/-- A smallest spanning tree, in any order. -/
def Ms (n : Nat) (es : List Ed) (S : List Nat) : Prop := S.length + 1 = n ∧ rk n es S + 1 = n ∧ wsum es S = wsum es (firstL n es)
theorem Ms_perm {S S' : List Nat} (hn : Net n es) (hS : ∀ x ∈ S, x < es.length) (h : S.Perm S') : Ms n es S ↔ Ms n es S' := by
  unfold Ms
  rw [h.length_eq, wsum_perm h, rk_set (hn.Ends hS) fun x => h.mem_iff]
/-- How many smallest spanning trees there are. -/
noncomputable def mstN (n : Nat) (es : List Ed) : Nat := cntS (List.range es.length) (fun S => pB (Ms n es S ∧ ∀ x ∈ S, x < es.length))
theorem mst_prod (hn : Net n es) (hok : firstOk n es = true) : mstN n es = prodN (fun t => Nn es (lvl es t) (labF n es (ltE es t)) (rT n es t)) 1001 := by
  have hperm : (List.range es.length).Perm (cat es 1001) := (List.perm_ext_iff_of_nodup List.nodup_range (cat_nodup _)).2 fun x => by
    rw [List.mem_range, mem_cat]
    have := ew_le hn x
    omega
  unfold mstN
  rw [cntS_perm hperm fun S S' h => pB_congr (by
    constructor
    · rintro ⟨h1, h2⟩; exact ⟨(Ms_perm hn h2 h).1 h1, fun x hx => h2 x (h.mem_iff.2 hx)⟩
    · rintro ⟨h1, h2⟩; exact ⟨(Ms_perm hn h2 h.symm).1 h1, fun x hx => h2 x (h.mem_iff.1 hx)⟩), ← cat_count hn]
  refine cntS_congr fun S hS => pB_congr ?_
  have hlt : ∀ x ∈ S, x < es.length := fun x hx => (mem_cat.1 (hS.subset hx)).1
  have hnd : S.Nodup := (cat_nodup (es := es) 1001).sublist hS
  have hp : S.Perm ((List.range es.length).filter (fun x => decide (x ∈ S))) := (List.perm_ext_iff_of_nodup hnd (List.nodup_range.filter _)).2 fun x => by
    rw [List.mem_filter, List.mem_range, decide_eq_true_eq]
    exact ⟨fun h => ⟨hlt x h, h⟩, fun h => h.2⟩
  have hasc : ((List.range es.length).filter (fun x => decide (x ∈ S))).Pairwise (· < ·) := (range_asc _).filter _
  generalize (List.range es.length).filter (fun x => decide (x ∈ S)) = T at *
  have hTm : ∀ x ∈ T, x < es.length := fun x hx => hlt x (hp.mem_iff.2 hx)
  have hF := first_tr hn hok
  have hFo := first_opt (n := n) hn
  constructor
  · rintro ⟨h, _⟩
    obtain ⟨h1, h2, h3⟩ := (Ms_perm hn hlt hp).1 h
    have hT : Tr n es T := ⟨hasc, hTm, h1, h2⟩
    have ho := opt_of_eq hn hF hFo hT h3
    obtain ⟨g1, g2, _⟩ := h
    exact ⟨by omega, fun k hk _ => (ho k hk).mono fun x hx => ⟨hp.mem_iff.2 hx.1, hx.2⟩⟩
  · rintro ⟨h1, h2⟩
    have ho : Opt es T := fun k hk => (h2 k hk (by have := ew_le hn k; omega)).mono fun x hx => ⟨hp.mem_iff.1 hx.1, hx.2⟩
    have hall : AllC n es (· ∈ T) := fun u v hu hv => ((firstOk_iff hn).1 hok u v hu hv).of fun k hk => (ho k hk).mono fun x hx => hx.1
    have hr := (rk_all (hn.Ends hTm) hn.n1).2 hall
    have hrS : rk n es S = rk n es T := rk_set (hn.Ends hlt) fun x => hp.mem_iff
    have hl := hp.length_eq
    have hT : Tr n es T := ⟨hasc, hTm, by omega, hr⟩
    refine ⟨(Ms_perm hn hlt hp).2 ⟨by omega, hr, ?_⟩, hlt⟩
    have a1 := opt_le hn hT ho hF
    have a2 := opt_le hn hF hFo hT
    omega

def comL (es : List Ed) (ga : List Nat) (t top : Nat) : List Nat := (lvl es t).filter (fun k => decide (nat_ ga (ea es k) = top))
theorem ltE_succ_mem {t x : Nat} : x ∈ ltE es (t + 1) ↔ x ∈ ltE es t ∨ x ∈ lvl es t := by rw [mem_ltE, mem_ltE, mem_lvl]; omega
section
variable (hn : Net n es) (t : Nat)
include hn
theorem eLt : Ends n es (ltE es t) := hn.Ends fun x hx => (mem_ltE.1 hx).1
/-- Groups only grow. -/
theorem lab_up {u v : Nat} (hu : u < n) (hv : v < n) (h : labF n es (ltE es t) u = labF n es (ltE es t) v) : labF n es (ltE es (t + 1)) u = labF n es (ltE es (t + 1)) v :=
  (cn_iff (eLt hn (t + 1)) hu hv).2 (((cn_iff (eLt hn t) hu hv).1 h).mono fun x hx => ltE_succ_mem.2 (.inl hx))
theorem lab_lvl {k : Nat} (hk : k ∈ lvl es t) : labF n es (ltE es (t + 1)) (ea es k) = labF n es (ltE es (t + 1)) (eb es k) := by
  obtain ⟨ha, hb⟩ := ed_ends hn (mem_lvl.1 hk).1
  exact (cn_iff (eLt hn (t + 1)) ha hb).2 (Con.edge (ltE_succ_mem.2 (.inr hk)))
theorem lab_can : Can n (kruG n es (ltE es t)) := kru_can (eLt hn t)
theorem lab_lab {v : Nat} (hv : v < n) : labF n es (ltE es (t + 1)) (labF n es (ltE es t) v) = labF n es (ltE es (t + 1)) v := by
  obtain ⟨h1, h2⟩ := (lab_can hn t).2 v hv
  exact lab_up hn t (by show nat_ _ v < n; omega) hv h2
theorem com_lab {k top : Nat} (hk : k ∈ comL es (kruG n es (ltE es (t + 1))) t top) :
    labF n es (ltE es t) (ea es k) ∈ comC n (kruG n es (ltE es t)) (kruG n es (ltE es (t + 1))) top ∧ labF n es (ltE es t) (eb es k) ∈ comC n (kruG n es (ltE es t)) (kruG n es (ltE es (t + 1))) top := by
  unfold comL at hk
  rw [List.mem_filter, decide_eq_true_eq] at hk
  obtain ⟨hk, htop⟩ := hk
  obtain ⟨ha, hb⟩ := ed_ends hn (mem_lvl.1 hk).1
  have one : ∀ v, v < n → nat_ (kruG n es (ltE es (t + 1))) v = top → labF n es (ltE es t) v ∈ comC n (kruG n es (ltE es t)) (kruG n es (ltE es (t + 1))) top := fun v hv e => by
    obtain ⟨h1, h2⟩ := (lab_can hn t).2 v hv
    refine mem_comC.2 ⟨by show nat_ _ v < n; omega, h2, ?_⟩
    have := lab_lab hn t hv
    unfold labF at this ⊢
    rw [this]; exact e
  exact ⟨one _ ha htop, one _ hb ((lab_lvl hn t hk).symm.trans htop)⟩
theorem com_cap (top r : Nat) (hr : (comC n (kruG n es (ltE es t)) (kruG n es (ltE es (t + 1))) top).length - 1 < r) : Nn es (comL es (kruG n es (ltE es (t + 1))) t top) (labF n es (ltE es t)) r = 0 := by
  by_cases hC : comC n (kruG n es (ltE es t)) (kruG n es (ltE es (t + 1))) top = []
  · have : comL es (kruG n es (ltE es (t + 1))) t top = [] := by
      rw [List.eq_nil_iff_forall_not_mem]
      intro k hk
      have := (com_lab hn t hk).1
      rw [hC] at this
      simp at this
    rw [this, Nn, if_neg (by omega)]
  · exact Nn_cap hC (by omega) fun k hk => .inr (com_lab hn t hk)
def sumF (f : Nat → Nat) : Nat → Nat
  | 0 => 0
  | n + 1 => sumF f n + f n
theorem com_prod (q : Nat) :
    (∀ r, sumF (fun top => (comC n (kruG n es (ltE es t)) (kruG n es (ltE es (t + 1))) top).length - 1) q < r →
      Nn es ((lvl es t).filter (fun k => decide (nat_ (kruG n es (ltE es (t + 1))) (ea es k) < q))) (labF n es (ltE es t)) r = 0) ∧
    Nn es ((lvl es t).filter (fun k => decide (nat_ (kruG n es (ltE es (t + 1))) (ea es k) < q))) (labF n es (ltE es t)) (sumF (fun top => (comC n (kruG n es (ltE es t)) (kruG n es (ltE es (t + 1))) top).length - 1) q) =
      prodN (fun top => Nn es (comL es (kruG n es (ltE es (t + 1))) t top) (labF n es (ltE es t)) ((comC n (kruG n es (ltE es t)) (kruG n es (ltE es (t + 1))) top).length - 1)) q := by
  induction q with
  | zero =>
    have : (lvl es t).filter (fun k => decide (nat_ (kruG n es (ltE es (t + 1))) (ea es k) < 0)) = [] := by
      rw [List.filter_eq_nil_iff]; intro k _; simp
    rw [this]
    exact ⟨fun r hr => by rw [Nn, if_neg (by omega)], rfl⟩
  | succ q ih =>
    obtain ⟨i1, i2⟩ := ih
    have hper : ((lvl es t).filter (fun k => decide (nat_ (kruG n es (ltE es (t + 1))) (ea es k) < q + 1))).Perm
        ((lvl es t).filter (fun k => decide (nat_ (kruG n es (ltE es (t + 1))) (ea es k) < q)) ++ comL es (kruG n es (ltE es (t + 1))) t q) := by
      refine (List.perm_ext_iff_of_nodup ((lvl_nodup es t).filter _) ?_).2 fun x => ?_
      · rw [List.nodup_append]
        refine ⟨(lvl_nodup es t).filter _, (lvl_nodup es t).filter _, fun x hx y hy (e : x = y) => ?_⟩
        subst e
        unfold comL at hy
        simp only [List.mem_filter, decide_eq_true_eq] at hx hy
        omega
      · unfold comL
        have hf : ∀ q : Nat → Bool, x ∈ (lvl es t).filter q ↔ x ∈ lvl es t ∧ q x = true := fun q => List.mem_filter
        rw [List.mem_append, hf, hf, hf, decide_eq_true_eq, decide_eq_true_eq, decide_eq_true_eq]
        constructor
        · rintro ⟨h1, h2⟩
          rcases Nat.lt_or_ge (nat_ (kruG n es (ltE es (t + 1))) (ea es x)) q with h | h
          · exact .inl ⟨h1, h⟩
          · exact .inr ⟨h1, by omega⟩
        · rintro (⟨h1, h2⟩ | ⟨h1, h2⟩)
          · exact ⟨h1, by omega⟩
          · exact ⟨h1, by omega⟩
    have hmul : ∀ rB, (comC n (kruG n es (ltE es t)) (kruG n es (ltE es (t + 1))) q).length - 1 ≤ rB →
        Nn es ((lvl es t).filter (fun k => decide (nat_ (kruG n es (ltE es (t + 1))) (ea es k) < q)) ++ comL es (kruG n es (ltE es (t + 1))) t q) (labF n es (ltE es t)) (sumF (fun top => (comC n (kruG n es (ltE es t)) (kruG n es (ltE es (t + 1))) top).length - 1) q + rB) =
          Nn es ((lvl es t).filter (fun k => decide (nat_ (kruG n es (ltE es (t + 1))) (ea es k) < q))) (labF n es (ltE es t)) (sumF (fun top => (comC n (kruG n es (ltE es t)) (kruG n es (ltE es (t + 1))) top).length - 1) q) *
            Nn es (comL es (kruG n es (ltE es (t + 1))) t q) (labF n es (ltE es t)) rB := fun rB hrB => by
      refine Nn_mul (V := (List.range n).filter (fun v => decide (nat_ (kruG n es (ltE es (t + 1))) v < q))) i1 (fun r hr => com_cap hn t q r (by omega)) (fun k hk => ?_) (fun k hk => ?_)
      · rw [List.mem_filter, decide_eq_true_eq] at hk
        obtain ⟨hk, hlt⟩ := hk
        obtain ⟨ha, hb⟩ := ed_ends hn (mem_lvl.1 hk).1
        have one : ∀ v, v < n → nat_ (kruG n es (ltE es (t + 1))) v < q → labF n es (ltE es t) v ∈ (List.range n).filter (fun v => decide (nat_ (kruG n es (ltE es (t + 1))) v < q)) := fun v hv h => by
          obtain ⟨h1, h2⟩ := (lab_can hn t).2 v hv
          rw [List.mem_filter, List.mem_range, decide_eq_true_eq]
          refine ⟨by show nat_ _ v < n; omega, ?_⟩
          have := lab_lab hn t hv
          unfold labF at this ⊢
          rw [this]; exact h
        refine ⟨one _ ha hlt, one _ hb ?_⟩
        have := lab_lvl hn t hk
        unfold labF at this
        rw [← this]; exact hlt
      · have := com_lab hn t hk
        rw [mem_comC, mem_comC] at this
        rw [List.mem_filter, List.mem_filter, decide_eq_true_eq, decide_eq_true_eq]
        exact ⟨fun h => by omega, fun h => by omega⟩
    refine ⟨fun r hr => ?_, ?_⟩
    · rw [sumF] at hr
      rw [Nn_perm hper]
      have := hmul (r - sumF (fun top => (comC n (kruG n es (ltE es t)) (kruG n es (ltE es (t + 1))) top).length - 1) q) (by omega)
      rw [com_cap hn t q _ (by omega), Nat.mul_zero] at this
      rw [show r = sumF (fun top => (comC n (kruG n es (ltE es t)) (kruG n es (ltE es (t + 1))) top).length - 1) q + (r - sumF (fun top => (comC n (kruG n es (ltE es t)) (kruG n es (ltE es (t + 1))) top).length - 1) q) by omega]
      exact this
    · rw [Nn_perm hper, sumF, prodN, ← i2]
      exact hmul _ (Nat.le_refl _)
/-- The ranks, by the groups. -/
theorem com_sum : sumF (fun top => (comC n (kruG n es (ltE es t)) (kruG n es (ltE es (t + 1))) top).length - 1) n = rT n es t := by
  have hA := lab_can hn t
  have hB := lab_can hn (t + 1)
  have key : ∀ q, q ≤ n → sumF (fun top => (comC n (kruG n es (ltE es t)) (kruG n es (ltE es (t + 1))) top).length - 1) q + (List.range q).countP (fun v => decide (nat_ (kruG n es (ltE es (t + 1))) v = v)) =
      (List.range n).countP (fun v => decide (nat_ (kruG n es (ltE es t)) v = v) && decide (nat_ (kruG n es (ltE es (t + 1))) v < q)) := by
    intro q
    induction q with
    | zero =>
      intro _
      symm
      show _ = 0
      rw [List.countP_eq_zero]
      intro v _; simp
    | succ q ih =>
      intro hq
      have ih := ih (by omega)
      rw [sumF, List.range_succ, List.countP_append]
      have hsplit : ∀ l : List Nat, l.countP (fun v => decide (nat_ (kruG n es (ltE es t)) v = v) && decide (nat_ (kruG n es (ltE es (t + 1))) v < q + 1)) =
          l.countP (fun v => decide (nat_ (kruG n es (ltE es t)) v = v) && decide (nat_ (kruG n es (ltE es (t + 1))) v < q)) + (l.filter (fun v => decide (nat_ (kruG n es (ltE es t)) v = v) && decide (nat_ (kruG n es (ltE es (t + 1))) v = q))).length := fun l => by
        induction l with
        | nil => rfl
        | cons x l ihl =>
          rw [List.countP_cons, List.countP_cons, List.filter_cons, ihl]
          by_cases h1 : nat_ (kruG n es (ltE es t)) x = x
          · rcases Nat.lt_trichotomy (nat_ (kruG n es (ltE es (t + 1))) x) q with h | h | h
            · simp [h1, h, show nat_ (kruG n es (ltE es (t + 1))) x < q + 1 by omega, show ¬ nat_ (kruG n es (ltE es (t + 1))) x = q by omega]; omega
            · simp [h1, h]; omega
            · simp [h1, show ¬ nat_ (kruG n es (ltE es (t + 1))) x < q + 1 by omega, show ¬ nat_ (kruG n es (ltE es (t + 1))) x < q by omega, show ¬ nat_ (kruG n es (ltE es (t + 1))) x = q by omega]
          · simp [h1]
      rw [hsplit, ← ih]
      show _ + ((comC n (kruG n es (ltE es t)) (kruG n es (ltE es (t + 1))) q).length - 1) + _ = _ + (comC n (kruG n es (ltE es t)) (kruG n es (ltE es (t + 1))) q).length
      by_cases hr : nat_ (kruG n es (ltE es (t + 1))) q = q
      · have hm : q ∈ comC n (kruG n es (ltE es t)) (kruG n es (ltE es (t + 1))) q := mem_comC.2 ⟨by omega, by
          obtain ⟨h1, h2⟩ := hA.2 q (by omega)
          have h3 := lab_lab hn t (v := q) (by omega)
          have h4 := (hB.2 (nat_ (kruG n es (ltE es t)) q) (by omega)).1
          unfold labF at h3
          omega, hr⟩
        have := List.length_pos_of_mem hm
        have e1 : [q].countP (fun v => decide (nat_ (kruG n es (ltE es (t + 1))) v = v)) = 1 := by simp [hr]
        rw [e1]; omega
      · have hz : comC n (kruG n es (ltE es t)) (kruG n es (ltE es (t + 1))) q = [] := by
          rw [List.eq_nil_iff_forall_not_mem]
          intro v hv
          obtain ⟨h1, h2, h3⟩ := mem_comC.1 hv
          have := (hB.2 v h1).2
          rw [h3] at this
          exact hr this
        have e1 : [q].countP (fun v => decide (nat_ (kruG n es (ltE es (t + 1))) v = v)) = 0 := by simp [hr]
        rw [hz, e1]; simp
  have h := key n (Nat.le_refl _)
  have e : (List.range n).countP (fun v => decide (nat_ (kruG n es (ltE es t)) v = v) && decide (nat_ (kruG n es (ltE es (t + 1))) v < n)) = (List.range n).countP (fun v => decide (nat_ (kruG n es (ltE es t)) v = v)) := by
    apply List.countP_congr
    intro v hv
    have hv := List.mem_range.1 hv
    have := (hB.2 v hv).1
    simp; omega
  rw [e] at h
  have c1 := rk_cmp (eLt hn t)
  have c2 := rk_cmp (eLt hn (t + 1))
  unfold cmp_ at c1 c2
  rw [kruG_length] at c1 c2
  unfold rT
  omega
theorem lvl_prod : Nn es (lvl es t) (labF n es (ltE es t)) (rT n es t) =
    prodN (fun top => Nn es (comL es (kruG n es (ltE es (t + 1))) t top) (labF n es (ltE es t)) ((comC n (kruG n es (ltE es t)) (kruG n es (ltE es (t + 1))) top).length - 1)) n := by
  rw [← (com_prod hn t n).2, com_sum hn t]
  congr 1
  symm
  rw [List.filter_eq_self]
  intro k hk
  obtain ⟨ha, _⟩ := ed_ends hn (mem_lvl.1 hk).1
  have := ((lab_can hn (t + 1)).2 (ea es k) ha).1
  rw [decide_eq_true_eq]
  exact Nat.lt_of_le_of_lt this ha
end
end

end Go.Proofs.Ytpfbichomgojoaa
