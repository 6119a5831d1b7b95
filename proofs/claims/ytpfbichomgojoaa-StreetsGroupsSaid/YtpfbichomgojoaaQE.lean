/- Plain: primes, inverses, and what elimination modulo a prime gives. -/
import Derived.Test.YtpfbichomgojoaaQD
import Derived.Test.YtpfbichomgojoaaQM
namespace Go.Proofs.Ytpfbichomgojoaa

def Prm (p : Nat) : Prop := 1 < p ∧ ∀ d, 1 < d → d < p → ¬ d ∣ p
def chkD (p : Nat) : Nat → Nat → Bool
  | d, 0 => decide (p % d ≠ 0)
  | d, k + 1 => chkD p d k && chkD p (d + 2 ^ k) k
theorem chkD_all {p : Nat} : ∀ {k d : Nat}, chkD p d k = true → ∀ x, d ≤ x → x < d + 2 ^ k → p % x ≠ 0 := by
  intro k
  induction k with
  | zero =>
    intro d h x h1 h2
    have : x = d := by simp at h2; omega
    subst this
    simpa [chkD] using h
  | succ k ih =>
    intro d h x h1 h2
    rw [chkD, Bool.and_eq_true] at h
    rw [Nat.pow_succ] at h2
    rcases Nat.lt_or_ge x (d + 2 ^ k) with hx | hx
    · exact ih h.1 x h1 hx
    · exact ih h.2 x hx (by omega)
theorem prm_of_chk {p : Nat} (h : chkD p 2 16 = true) (h1 : 1 < p) (h2 : p < 65538 * 65538) : Prm p := by
  refine ⟨h1, fun d hd1 hd2 hd => ?_⟩
  obtain ⟨e, he⟩ := hd
  have he1 : 1 < e := by
    rcases Nat.lt_or_ge 1 e with h | h
    · exact h
    · exfalso
      have : e = 0 ∨ e = 1 := by omega
      rcases this with rfl | rfl <;> omega
  have hall := chkD_all h
  have hp16 : (2 : Nat) ^ 16 = 65536 := rfl
  rw [hp16] at hall
  rcases Nat.lt_or_ge d 65538 with hl | hl
  · exact hall d (by omega) (by omega) (by rw [he]; exact Nat.mul_mod_right d e)
  · rcases Nat.lt_or_ge e 65538 with hl2 | hl2
    · exact hall e (by omega) (by omega) (by rw [he]; exact Nat.mul_mod_left d e)
    · have := Nat.mul_le_mul hl hl2
      omega
theorem prm1 : Prm 2147483647 := prm_of_chk (by decide +kernel) (by decide) (by decide)
theorem prm2 : Prm 2147483629 := prm_of_chk (by decide +kernel) (by decide) (by decide)
theorem prm3 : Prm 1000000007 := prm_of_chk (by decide +kernel) (by decide) (by decide)
theorem prm4 : Prm 998244353 := prm_of_chk (by decide +kernel) (by decide) (by decide)

theorem mod_eq_dvd {p x y : Nat} (h : x ≤ y) : x % p = y % p ↔ p ∣ y - x := by
  constructor
  · intro e; exact Nat.dvd_of_mod_eq_zero (Nat.sub_mod_eq_zero_of_mod_eq e.symm)
  · rintro ⟨c, hc⟩
    have : y = x + p * c := by omega
    rw [this, Nat.add_mul_mod_self_left]
section
variable {p : Nat} (hp : Prm p)
include hp
theorem Prm.cop {a : Nat} (h0 : 0 < a) (h1 : a < p) : Nat.Coprime a p := by
  have hg1 := Nat.gcd_dvd_left a p
  have hg2 := Nat.gcd_dvd_right a p
  have hg3 := Nat.le_of_dvd h0 hg1
  have hg4 := Nat.gcd_pos_of_pos_left p h0
  rcases Nat.lt_or_ge 1 (Nat.gcd a p) with h | h
  · exact absurd hg2 (hp.2 _ h (by omega))
  · show Nat.gcd a p = 1
    omega
/-- Fermat's little theorem. -/
theorem Prm.fermat {a : Nat} (h0 : 0 < a) (h1 : a < p) : a ^ (p - 1) % p = 1 := by
  have hcop := hp.cop h0 h1
  have hp1 := hp.1
  let L := (List.range (p - 1)).map (· + 1)
  have hLm : ∀ x, x ∈ L ↔ 0 < x ∧ x < p := fun x => by
    show x ∈ (List.range (p - 1)).map (· + 1) ↔ _
    rw [List.mem_map]
    constructor
    · rintro ⟨y, hy, rfl⟩; have := List.mem_range.1 hy; omega
    · rintro ⟨hx1, hx2⟩; exact ⟨x - 1, List.mem_range.2 (by omega), by omega⟩
  have hnodup : ∀ (f : Nat → Nat) (l : List Nat), l.Nodup → (∀ x ∈ l, ∀ y ∈ l, x < y → f x ≠ f y) → (l.map f).Nodup := fun f l hl hf => by
    unfold List.Nodup at *
    rw [List.pairwise_map]
    refine List.Pairwise.imp_of_mem (fun {x y} hx hy hne => ?_) hl
    rcases Nat.lt_or_ge x y with h | h
    · exact hf x hx y hy h
    · exact fun e => hf y hy x hx (by omega) e.symm
  have hLn : L.Nodup := hnodup (· + 1) _ List.nodup_range fun x _ y _ h => by show x + 1 ≠ y + 1; omega
  let L' := L.map (fun x => a * x % p)
  have hL'n : L'.Nodup := hnodup _ _ hLn fun x hx y hy hxy e => by
    have hx' := (hLm x).1 hx
    have hy' := (hLm y).1 hy
    have hd : p ∣ a * (y - x) := by
      rw [Nat.mul_sub]
      exact (mod_eq_dvd (Nat.mul_le_mul_left a (by omega))).1 e
    have hd2 : p ∣ y - x := hcop.symm.dvd_of_dvd_mul_left hd
    have := Nat.le_of_dvd (by omega) hd2
    omega
  have hsub : ∀ x ∈ L', x ∈ L := fun x hx => by
    obtain ⟨y, hy, rfl⟩ := List.mem_map.1 hx
    have hy' := (hLm y).1 hy
    rw [hLm]
    refine ⟨?_, Nat.mod_lt _ (by omega)⟩
    rcases Nat.eq_zero_or_pos (a * y % p) with h | h
    · exfalso
      have hd : p ∣ a * y := Nat.dvd_of_mod_eq_zero h
      have hd2 : p ∣ y := hcop.symm.dvd_of_dvd_mul_left hd
      have := Nat.le_of_dvd (by omega) hd2
      omega
    · exact h
  have hperm : L'.Perm L := (List.perm_ext_iff_of_nodup hL'n hLn).2 fun x => ⟨hsub x, fun hx => by
    refine Classical.byContradiction fun hno => ?_
    have h1 := hL'n.length_le_of_subset (l₂ := L.erase x) fun y hy => (List.mem_erase_of_ne (by rintro rfl; exact hno hy)).2 (hsub y hy)
    rw [List.length_erase_of_mem hx] at h1
    have h2 : L'.length = L.length := List.length_map _
    have h3 := List.length_pos_of_mem hx
    omega⟩
  have hprod := hperm.prod_nat
  have hmod : ∀ l : List Nat, (l.map (fun x => a * x % p)).prod % p = a ^ l.length * l.prod % p := fun l => by
    induction l with
    | nil => simp
    | cons x l ih =>
      rw [List.map_cons, List.prod_cons, List.prod_cons, List.length_cons, Nat.mul_mod, ih, ← Nat.mul_mod, Nat.mul_mod, Nat.mod_mod, ← Nat.mul_mod, Nat.pow_succ]
      congr 1
      grind
  have hm := hmod L
  have hll : L.length = p - 1 := by show ((List.range (p - 1)).map (· + 1)).length = _; simp
  rw [show L.map (fun x => a * x % p) = L' from rfl, hprod, hll] at hm
  have hc : ∀ l : List Nat, (∀ x ∈ l, 0 < x ∧ x < p) → Nat.Coprime l.prod p := fun l => by
    induction l with
    | nil => intro _; exact Nat.gcd_one_left p
    | cons x l ih =>
      intro h
      rw [List.prod_cons]
      have hx := h x (List.mem_cons_self ..)
      exact (hp.cop hx.1 hx.2).mul_left (ih fun y hy => h y (List.mem_cons_of_mem _ hy))
  have hcL := hc L fun x hx => (hLm x).1 hx
  have hpos : 1 ≤ a ^ (p - 1) := Nat.pow_pos h0
  have hd : p ∣ L.prod * (a ^ (p - 1) - 1) := by
    rw [Nat.mul_sub, Nat.mul_one, Nat.mul_comm]
    exact (mod_eq_dvd (Nat.le_mul_of_pos_left _ hpos)).1 hm
  have hd2 : p ∣ a ^ (p - 1) - 1 := hcL.symm.dvd_of_dvd_mul_left hd
  have h2 := (mod_eq_dvd hpos).2 hd2
  rw [Nat.mod_eq_of_lt hp1] at h2
  exact h2.symm
/-- The inverse that the programs reckon. -/
theorem Prm.inv {a : Nat} (h0 : 0 < a) (h1 : a < p) : a * powP a (p - 2) p % p = 1 := by
  have h := hp.fermat h0 h1
  have hp1 := hp.1
  rw [powP_spec hp1, Nat.mul_mod, Nat.mod_mod, ← Nat.mul_mod, ← Nat.pow_succ']
  rw [show (p - 2).succ = p - 1 by have : a ≠ p - 1 ∨ a = p - 1 := by omega
                                   omega]
  exact h
end

/-- The part of a matrix from row and column c on. -/
def blkM (c : Nat) (M : List (List Nat)) (i j : Nat) : Int := (nat_ (row_ M (c + i)) (c + j) : Int)
theorem pivGo_spec {M : List (List Nat)} {s c : Nat} : ∀ {f r : Nat}, r + f = s → r ≤ pivGo M s c f r ∧ pivGo M s c f r ≤ s ∧ (∀ i, r ≤ i → i < pivGo M s c f r → nat_ (row_ M i) c = 0) ∧ (pivGo M s c f r < s → nat_ (row_ M (pivGo M s c f r)) c ≠ 0) := by
  intro f
  induction f with
  | zero => intro r h; exact ⟨Nat.le_refl _, by show r ≤ s; omega, fun i h1 h2 => by have : i < r := h2; omega, fun h2 => by have : r < s := h2; omega⟩
  | succ f ih =>
    intro r h
    rw [pivGo]
    by_cases hc : r < s ∧ nat_ (row_ M r) c = 0
    · rw [if_pos hc]
      obtain ⟨a1, a2, a3, a4⟩ := ih (r := r + 1) (by omega)
      refine ⟨by omega, a2, fun i h1 h2 => ?_, a4⟩
      by_cases e : i = r
      · subst e; exact hc.2
      · exact a3 i (by omega) h2
    · rw [if_neg hc]
      exact ⟨Nat.le_refl _, by omega, fun i h1 h2 => by omega, fun h2 h0 => hc ⟨h2, h0⟩⟩
theorem elF_at {p f : Nat} {top : List Nat} : ∀ (n c : Nat) (row : List Nat) (j : Nat), c + n ≤ row.length →
    nat_ ((List.range' c n).foldl (elJ p f top) row) j = if c ≤ j ∧ j < c + n then (nat_ row j + (p - f) * nat_ top j) % p else nat_ row j := by
  intro n
  induction n with
  | zero => intro c row j _; rw [if_neg (by omega)]; rfl
  | succ n ih =>
    intro c row j h
    rw [List.range'_succ, List.foldl_cons, ih (c + 1) _ j (by simp [elJ]; omega)]
    unfold elJ
    rw [nat_set' (i := c)]
    by_cases e : c = j
    · subst e; rw [if_neg (by omega), if_pos ⟨rfl, by omega⟩, if_pos (by omega)]
    · rw [if_neg (show ¬ (c = j ∧ c < row.length) from fun h => e h.1)]
      by_cases g : c + 1 ≤ j ∧ j < c + 1 + n
      · rw [if_pos g, if_pos (by omega)]
      · rw [if_neg g, if_neg (by omega)]
/-- A square of numbers less than p. -/
def Sq (s : Nat) (M : List (List Nat)) : Prop := M.length = s ∧ ∀ i, i < s → (row_ M i).length = s
theorem Sq.set {s : Nat} {M : List (List Nat)} (h : Sq s M) {i : Nat} {x : List Nat} (hx : x.length = s) : Sq s (M.set i x) := by
  refine ⟨by rw [List.length_set]; exact h.1, fun k hk => ?_⟩
  rw [row_set']
  split
  · exact hx
  · exact h.2 k hk
theorem elR_len {p f s c : Nat} {top row : List Nat} : (elR p f top s c row).length = row.length := elF_len _ _
theorem elM_at {p inv s c : Nat} : ∀ (n d : Nat) (M : List (List Nat)), c < d → d + n ≤ s → Sq s M →
    Sq s ((List.range' d n).foldl (elI p inv s c) M) ∧
    ∀ i, row_ ((List.range' d n).foldl (elI p inv s c) M) i = if d ≤ i ∧ i < d + n then elR p (nat_ (row_ M i) c * inv % p) (row_ M c) s c (row_ M i) else row_ M i := by
  intro n
  induction n with
  | zero => intro d M _ _ hs; exact ⟨hs, fun i => by rw [if_neg (by omega)]; rfl⟩
  | succ n ih =>
    intro d M hcd hds hs
    rw [List.range'_succ, List.foldl_cons]
    have hs2 : Sq s (elI p inv s c M d) := hs.set (by rw [elR_len]; exact hs.2 d (by omega))
    obtain ⟨h1, h2⟩ := ih (d + 1) _ (by omega) (by omega) hs2
    have hro : ∀ i, row_ (elI p inv s c M d) i = if d = i then elR p (nat_ (row_ M d) c * inv % p) (row_ M c) s c (row_ M d) else row_ M i := fun i => by
      unfold elI
      rw [row_set (by rw [hs.1]; omega)]
    refine ⟨h1, fun i => ?_⟩
    rw [h2 i, hro i, hro c, if_neg (show ¬ d = c by omega)]
    by_cases e : d = i
    · subst e; rw [if_neg (by omega), if_pos rfl, if_pos (by omega)]
    · rw [if_neg e]
      by_cases g : d + 1 ≤ i ∧ i < d + 1 + n
      · rw [if_pos g, if_pos (by omega)]
      · rw [if_neg g, if_neg (by omega)]

/-- One column cleared: what it does to the determinant. -/
theorem elM_det0 {p : Nat} (hp1 : 1 < p) {s c inv : Nat} {M M2 : List (List Nat)} (hM2 : elM p inv s c M = M2) (hs : Sq s M) (hl : LtM p M) (hc : c < s) (hinv : nat_ (row_ M c) c * inv % p = 1) :
    Sq s M2 ∧ LtM p M2 ∧ Cg p (det (s - c) (blkM c M)) (nat_ (row_ M c) c * det (s - (c + 1)) (blkM (c + 1) M2)) := by
  obtain ⟨hs2, hrow⟩ := elM_at (p := p) (inv := inv) (c := c) (s - (c + 1)) (c + 1) M (by omega) (by omega) hs
  have hM2' : (List.range' (c + 1) (s - (c + 1))).foldl (elI p inv s c) M = M2 := hM2
  rw [hM2'] at hs2 hrow
  have hrow2 : ∀ i j, i < s → j < s → nat_ (row_ M2 i) j = if c < i ∧ c ≤ j then (nat_ (row_ M i) j + (p - nat_ (row_ M i) c * inv % p) * nat_ (row_ M c) j) % p else nat_ (row_ M i) j := fun i j hi hj => by
    rw [hrow i]
    by_cases h : c < i
    · rw [if_pos (by omega)]
      unfold elR
      rw [elF_at _ _ _ _ (by rw [hs.2 i hi]; omega)]
      by_cases g : c ≤ j
      · rw [if_pos (by omega), if_pos ⟨h, g⟩]
      · rw [if_neg (by omega), if_neg (by omega)]
    · rw [if_neg (by omega), if_neg (by omega)]
  have hlt2 : LtM p M2 := fun i j => by
    rw [hrow i]
    split
    · exact elF_lt (by omega) _ _ (hl i) j
    · exact hl i j
  refine ⟨hs2, hlt2, ?_⟩
  obtain ⟨m, hm⟩ : ∃ m, s - c = m + 1 := ⟨s - c - 1, by omega⟩
  have hm2 : s - (c + 1) = m := by omega
  rw [hm, hm2]
  have e1 := det_elim (n := m) (M := blkM c M) (fun i => -((nat_ (row_ M (c + i)) c * inv % p : Nat) : Int)) m (Nat.le_refl _)
  rw [← e1]
  have hcg : Cg p (det (m + 1) (fun i j => if 0 < i ∧ i ≤ m then blkM c M i j + -((nat_ (row_ M (c + i)) c * inv % p : Nat) : Int) * blkM c M 0 j else blkM c M i j)) (det (m + 1) (blkM c M2)) := by
    refine Cg.det fun i j hi hj => ?_
    unfold blkM
    rw [hrow2 (c + i) (c + j) (by omega) (by omega)]
    by_cases h : 0 < i
    · rw [if_pos (by omega), if_pos (by omega), Nat.add_zero]
      have hf : nat_ (row_ M (c + i)) c * inv % p < p := Nat.mod_lt _ (by omega)
      generalize nat_ (row_ M (c + i)) c * inv % p = f at *
      refine Cg.trans ?_ (Cg.mod _).symm
      refine ⟨-(nat_ (row_ M c) (c + j) : Int), ?_⟩
      have e : ((p - f : Nat) : Int) = (p : Int) - f := by omega
      rw [Int.natCast_add, Int.natCast_mul, e]
      grind
    · rw [if_neg (by omega), if_neg (by omega)]; exact Cg.refl _
  refine hcg.trans (Cg.of_eq ?_)
  rw [det_col0]
  · have h0 : blkM c M2 0 0 = (nat_ (row_ M c) c : Int) := by
      unfold blkM
      rw [Nat.add_zero, hrow2 c c hc hc, if_neg (by omega)]
    rw [h0, det_congr (M' := blkM (c + 1) M2) fun i j _ _ => ?_]
    unfold blkM
    rw [show c + (i + 1) = c + 1 + i by omega, show c + (j + 1) = c + 1 + j by omega]
  · intro i hi him
    unfold blkM
    rw [hrow2 (c + i) (c + 0) (by omega) (by omega), if_pos (by omega), Nat.add_zero]
    generalize nat_ (row_ M (c + i)) c = x at *
    generalize nat_ (row_ M c) c = y at *
    have hxlt : x * inv % p ≤ p := Nat.le_of_lt (Nat.mod_lt _ (by omega))
    have : Cg p ((x + (p - x * inv % p) * y : Nat) : Int) ((0 : Nat) : Int) := by
      have e : ((x + (p - x * inv % p) * y : Nat) : Int) = (x : Int) + ((p : Int) - ((x * inv % p : Nat) : Int)) * y := by
        rw [Int.natCast_add, Int.natCast_mul, Int.natCast_sub hxlt]
      rw [e]
      have h1 : Cg p ((x * inv % p : Nat) : Int) ((x * inv : Nat) : Int) := Cg.mod _
      have h2 : Cg p (((y * inv : Nat)) : Int) 1 := by
        have := (Cg.mod (p := p) (y * inv)).symm
        rw [hinv] at this
        exact this
      obtain ⟨k1, h1⟩ := h1
      obtain ⟨k2, h2⟩ := h2
      rw [Int.natCast_mul] at h1 h2
      refine ⟨(y : Int) - k1 * y - x * k2, ?_⟩
      rw [h1]
      grind
    obtain ⟨k, hk⟩ := this
    have hz : ((x + (p - x * inv % p) * y : Nat) : Int) % p = 0 := by rw [hk]; simp
    omega
theorem elM_det {p : Nat} (hp : Prm p) {s c : Nat} {M : List (List Nat)} (hs : Sq s M) (hl : LtM p M) (hc : c < s) (hpiv : nat_ (row_ M c) c ≠ 0) :
    Sq s (elM p (powP (nat_ (row_ M c) c) (p - 2) p) s c M) ∧ LtM p (elM p (powP (nat_ (row_ M c) c) (p - 2) p) s c M) ∧
      Cg p (det (s - c) (blkM c M)) (nat_ (row_ M c) c * det (s - (c + 1)) (blkM (c + 1) (elM p (powP (nat_ (row_ M c) c) (p - 2) p) s c M))) :=
  elM_det0 hp.1 rfl hs hl hc (hp.inv (Nat.pos_of_ne_zero hpiv) (hl c c))
theorem swapM_row {s : Nat} {M : List (List Nat)} (hs : Sq s M) {i j : Nat} (hi : i < s) (hj : j < s) (k : Nat) : row_ (swapM M i j) k = if j = k then row_ M i else if i = k then row_ M j else row_ M k := by
  unfold swapM
  rw [row_set (by rw [List.length_set, hs.1]; exact hj), row_set (by rw [hs.1]; exact hi)]
theorem Sq.swap {s : Nat} {M : List (List Nat)} (hs : Sq s M) {i j : Nat} (hi : i < s) (hj : j < s) : Sq s (swapM M i j) := (hs.set (hs.2 j hj)).set (hs.2 i hi)

theorem gauM_det {p : Nat} (hp : Prm p) {s c out : Nat} {M : List (List Nat)} (hs : Sq s M) (hl : LtM p M) (hc : c < s) (hpiv : nat_ (row_ M c) c ≠ 0) :
    Sq s (gauM p s c out M).2 ∧ LtM p (gauM p s c out M).2 ∧ (gauM p s c out M).1 < p ∧ Cg p (out * det (s - c) (blkM c M)) ((gauM p s c out M).1 * det (s - (c + 1)) (blkM (c + 1) (gauM p s c out M).2)) := by
  obtain ⟨h1, h2, h3⟩ := elM_det hp hs hl hc hpiv
  refine ⟨h1, h2, Nat.mod_lt _ (by have := hp.1; omega), ?_⟩
  unfold gauM
  dsimp only
  have h4 : Cg p ((out * nat_ (row_ M c) c % p : Nat) : Int) ((out : Int) * nat_ (row_ M c) c) := by
    have := Cg.mod (p := p) (out * nat_ (row_ M c) c)
    rwa [Int.natCast_mul] at this
  refine ((Cg.refl (out : Int)).mul h3).trans ?_
  rw [← Int.mul_assoc]
  exact (h4.mul (Cg.refl _)).symm
theorem detGo_spec {p : Nat} (hp : Prm p) {s : Nat} : ∀ (n c out : Nat) (M : List (List Nat)), c + n = s → Sq s M → LtM p M → out < p →
    detGo p s (List.range' c n) (out, M) < p ∧ Cg p (detGo p s (List.range' c n) (out, M)) (out * det (s - c) (blkM c M)) := by
  intro n
  induction n with
  | zero =>
    intro c out M hcs _ _ ho
    have : s - c = 0 := by omega
    rw [this]
    exact ⟨ho, Cg.of_eq (by show (out : Int) = out * 1; omega)⟩
  | succ n ih =>
    intro c out M hcs hs hl ho
    have hp1 := hp.1
    rw [List.range'_succ, detGo]
    obtain ⟨a1, a2, a3, a4⟩ := pivGo_spec (M := M) (s := s) (c := c) (f := s - c) (r := c) (by omega)
    obtain ⟨r, hr⟩ : ∃ r, pivR M s c = r := ⟨_, rfl⟩
    have hpr : pivGo M s c (s - c) c = r := hr
    rw [hpr] at a1 a2 a3 a4
    unfold gauS
    dsimp only
    rw [hr]
    by_cases h1 : r = s
    · rw [if_pos h1]
      refine ⟨by show 0 < p; omega, ?_⟩
      obtain ⟨m, hm⟩ : ∃ m, s - c = m + 1 := ⟨s - c - 1, by omega⟩
      rw [hm, det_col_zero]
      · exact Cg.of_eq (by show ((0 : Nat) : Int) = _; simp)
      · intro i hi
        unfold blkM
        rw [Nat.add_zero, a3 (c + i) (by omega) (by omega)]
        rfl
    · rw [if_neg h1]
      have hpv := a4 (by omega)
      by_cases h2 : r = c
      · rw [if_pos h2]
        subst h2
        obtain ⟨b1, b2, b3, b4⟩ := gauM_det (out := out) hp hs hl (by omega) hpv
        obtain ⟨c1, c2⟩ := ih (r + 1) (gauM p s r out M).1 (gauM p s r out M).2 (by omega) b1 b2 b3
        exact ⟨c1, c2.trans b4.symm⟩
      · rw [if_neg h2]
        have hs2 : Sq s (swapM M r c) := hs.swap (by omega) (by omega)
        have hrw := fun k => swapM_row hs (i := r) (j := c) (by omega) (by omega) k
        have hpv2 : nat_ (row_ (swapM M r c) c) c ≠ 0 := by rw [hrw, if_pos rfl]; exact hpv
        obtain ⟨b1, b2, b3, b4⟩ := gauM_det (out := p - out) hp hs2 (hl.swap r c) (by omega) hpv2
        obtain ⟨c1, c2⟩ := ih (c + 1) (gauM p s c (p - out) (swapM M r c)).1 (gauM p s c (p - out) (swapM M r c)).2 (by omega) b1 b2 b3
        refine ⟨c1, c2.trans (b4.symm.trans ?_)⟩
        have hsw : det (s - c) (blkM c (swapM M r c)) = - det (s - c) (blkM c M) := by
          refine det_swap (r := r - c) (c := 0) (by omega) (by omega) (by omega) (fun i j hi hj g1 g2 => ?_) (fun j hj => ?_)
          · unfold blkM; rw [hrw, if_neg (by omega), if_neg (by omega)]
          · unfold blkM
            rw [hrw, hrw, if_neg (by omega), if_pos (by omega), if_pos (by omega), Nat.add_zero, show c + (r - c) = r by omega]
            exact ⟨rfl, rfl⟩
        rw [hsw]
        refine ⟨- det (s - c) (blkM c M), ?_⟩
        rw [Int.natCast_sub (by omega)]
        grind
/-- The determinant modulo a prime, as the programs reckon it. -/
theorem detP_spec {p : Nat} (hp : Prm p) {s : Nat} {M : List (List Nat)} (hs : Sq s M) (hl : LtM p M) : detP p M < p ∧ Cg p (detP p M) (det s (blkM 0 M)) := by
  have := detGo_spec hp s 0 1 M (by omega) hs hl hp.1
  unfold detP
  rw [hs.1, List.range_eq_range']
  refine ⟨this.1, this.2.trans (Cg.of_eq ?_)⟩
  simp

end Go.Proofs.Ytpfbichomgojoaa
