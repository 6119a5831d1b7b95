/- Walk: determinant. -/
import Derived.Test.YtpfbichomgojoaaP16
import Derived.Test.YtpfbichomgojoaaMx
namespace Go.Proofs.Ytpfbichomgojoaa
open Go.RowKit

theorem gauS_none {p s c out : Nat} {M : List (List Nat)} (h : pivR M s c = s) : gauS p s (out, M) c = none := by unfold gauS; rw [if_pos h]
theorem gauS_here {p s c out : Nat} {M : List (List Nat)} (h : pivR M s c ≠ s) (h2 : pivR M s c = c) : gauS p s (out, M) c = some (gauM p s c out M) := by unfold gauS; rw [if_neg h, if_pos h2]
theorem gauS_swap {p s c out r : Nat} {M : List (List Nat)} (hr : pivR M s c = r) (h : r ≠ s) (h2 : r ≠ c) : gauS p s (out, M) c = some (gauM p s c (p - out) (swapM M r c)) := by
  unfold gauS; rw [hr, if_neg h, if_neg h2]
theorem detGo_some {p s c : Nat} {l : List Nat} {st st' : Nat × List (List Nat)} (h : gauS p s st c = some st') : detGo p s (c :: l) st = detGo p s l st' := by rw [detGo, h]
theorem detGo_none {p s c : Nat} {l : List Nat} {st : Nat × List (List Nat)} (h : gauS p s st c = none) : detGo p s (c :: l) st = 0 := by rw [detGo, h]
theorem range_drop_succ {s k : Nat} (h : k < s) : (List.range s).drop k = k :: (List.range s).drop (k + 1) := by
  rw [List.drop_eq_getElem_cons (by simpa using h)]; simp

/-- One column is cleared. -/
def elP (p inv s c q : Nat) (M : List (List Nat)) : List (List Nat) := ((List.range' (c + 1) (s - (c + 1))).take q).foldl (elI p inv s c) M
theorem elP_succ {p inv s c q : Nat} {M : List (List Nat)} (h : q < s - (c + 1)) : elP p inv s c (q + 1) M = elI p inv s c (elP p inv s c q M) (c + 1 + q) := by
  unfold elP; rw [range'_take_succ h, List.foldl_append]; rfl
theorem elP_all {p inv s c : Nat} {M : List (List Nat)} : elP p inv s c (s - (c + 1)) M = elM p inv s c M := by
  unfold elP elM; rw [List.take_of_length_le (by simp)]
def rwP (p f s c q : Nat) (top row : List Nat) : List Nat := ((List.range' c (s - c)).take q).foldl (elJ p f top) row
theorem rwP_succ {p f s c q : Nat} {top row : List Nat} (h : q < s - c) : rwP p f s c (q + 1) top row = elJ p f top (rwP p f s c q top row) (c + q) := by
  unfold rwP; rw [range'_take_succ h, List.foldl_append]; rfl
theorem rwP_all {p f s c : Nat} {top row : List Nat} : rwP p f s c (s - c) top row = elR p f top s c row := by
  unfold rwP elR; rw [List.take_of_length_le (by simp)]
theorem rwP_lt {p f s c q : Nat} {top row : List Nat} (hp : 0 < p) (h : ∀ j, nat_ row j < p) : ∀ j, nat_ (rwP p f s c q top row) j < p := elF_lt hp _ _ h
theorem rwP_len {p f s c q : Nat} {top row : List Nat} : (rwP p f s c q top row).length = row.length := elF_len _ _

theorem submul (a f t p : Nat) (ha : a < p) (hf : f < p) (ht : t < p) (hp : p ≤ 2147483647) : a + (p - f) * t ≤ 2147483647 + 2147483647 * 2147483647 := by
  have : (p - f) * t ≤ 2147483647 * 2147483647 := Nat.mul_le_mul (by omega) (by omega)
  omega
/-- What the program reckons at one place. -/
theorem elim_int (a f t p : Nat) (ha : a < p) (hf : f < p) (ht : t < p) (hp : p ≤ 2147483647) :
    (wrap64 ((a : Int) + wrap64 (wrap64 ((p : Int) - (f : Int)) * (t : Int)))).tmod (p : Int) = (((a + (p - f) * t) % p : Nat) : Int) := by
  have h := submul a f t p ha hf ht hp
  have e1 : wrap64 ((p : Int) - (f : Int)) = ((p - f : Nat) : Int) := by unfold wrap64; omega
  have e2 : wrap64 (((p - f : Nat) : Int) * (t : Int)) = (((p - f) * t : Nat) : Int) := by
    rw [← Int.natCast_mul]; unfold wrap64; omega
  have e3 : wrap64 ((a : Int) + (((p - f) * t : Nat) : Int)) = ((a + (p - f) * t : Nat) : Int) := by unfold wrap64; omega
  rw [e1, e2, e3]; rfl

theorem elim_int2 (a f t p : Nat) (ha : a < p) (hf : f < p) (ht : t < p) (hp : p ≤ 2147483647) :
    (wrap64 ((a : Int) + wrap64 (((p : Int) - (f : Int)) * (t : Int)))).tmod (p : Int) = (((a + (p - f) * t) % p : Nat) : Int) := by
  have h := elim_int a f t p ha hf ht hp
  have e1 : wrap64 ((p : Int) - (f : Int)) = (p : Int) - (f : Int) := by unfold wrap64; omega
  rwa [e1] at h
theorem elI_lt {p inv s c i : Nat} {M : List (List Nat)} (hp : 0 < p) (h : LtM p M) : LtM p (elI p inv s c M i) := h.set (fun j => by unfold elR; exact elF_lt hp _ _ (h i) j)
theorem elP_lt {p inv s c : Nat} {M : List (List Nat)} (hp : 0 < p) (h : LtM p M) : ∀ q, q ≤ s - (c + 1) → LtM p (elP p inv s c q M) := by
  intro q
  induction q with
  | zero => intro _; exact h
  | succ q ih => intro hq; rw [elP_succ (by omega)]; exact elI_lt hp (ih (by omega))
theorem elP_next {p inv s c i0 : Nat} {M : List (List Nat)} (h1 : c + 1 ≤ i0) (h2 : i0 < s) : elP p inv s c (i0 + 1 - (c + 1)) M = elI p inv s c (elP p inv s c (i0 - (c + 1)) M) i0 := by
  have h := elP_succ (p := p) (inv := inv) (s := s) (c := c) (q := i0 - (c + 1)) (M := M) (by omega)
  rw [show i0 + 1 - (c + 1) = i0 - (c + 1) + 1 by omega, h, show c + 1 + (i0 - (c + 1)) = i0 by omega]
theorem rwP_next {p f s c j0 : Nat} {top row : List Nat} (h1 : c ≤ j0) (h2 : j0 < s) : rwP p f s c (j0 + 1 - c) top row = elJ p f top (rwP p f s c (j0 - c) top row) j0 := by
  have h := rwP_succ (p := p) (f := f) (s := s) (c := c) (q := j0 - c) (top := top) (row := row) (by omega)
  rw [show j0 + 1 - c = j0 - c + 1 by omega, h, show c + (j0 - c) = j0 by omega]
/-- The same, sum by sum. -/
theorem elim_op (a f t p : Nat) (ha : a < p) (hf : f < p) (ht : t < p) (hp : p ≤ 2147483647) :
    ∃ v1 v2 v3 : Int, IntKind.i64.wrap ((p : Int) - (f : Int)) = v1 ∧ IntKind.i64.wrap (v1 * (t : Int)) = v2 ∧ IntKind.i64.wrap ((a : Int) + v2) = v3 ∧ v3.tmod (p : Int) = (((a + (p - f) * t) % p : Nat) : Int) := by
  refine ⟨_, _, _, rfl, rfl, rfl, ?_⟩
  rw [IntKind.wrap_i64, IntKind.wrap_i64, IntKind.wrap_i64]
  have h := submul a f t p ha hf ht hp
  have e1 : (((p : Int) - (f : Int) + 9223372036854775808) % 18446744073709551616 - 9223372036854775808) = ((p - f : Nat) : Int) := by omega
  rw [e1, ← Int.natCast_mul]
  have e2 : ((((p - f) * t : Nat) : Int) + 9223372036854775808) % 18446744073709551616 - 9223372036854775808 = (((p - f) * t : Nat) : Int) := by omega
  rw [e2]
  have e3 : (((a : Int) + (((p - f) * t : Nat) : Int) + 9223372036854775808) % 18446744073709551616 - 9223372036854775808) = ((a + (p - f) * t : Nat) : Int) := by omega
  rw [e3]; rfl
theorem rowset_self {E : List (List Nat)} {i : Nat} {x : List Nat} (h : i < E.length) : row_ (E.set i x) i = x := by rw [row_set h, if_pos rfl]
theorem rowset_ne {E : List (List Nat)} {i c : Nat} {x : List Nat} (h : i < E.length) (hne : i ≠ c) : row_ (E.set i x) c = row_ E c := by rw [row_set h, if_neg hne]

/-- Blocks of S alone have turned. -/
structure ButS (S : Nat → Prop) (w w' : World) : Prop where
  os : w'.os = w.os
  tape : w'.tape = w.tape
  output : w'.output = w.output
  size : w.heap.size ≤ w'.heap.size
  block : ∀ k, k < w.heap.size → ¬ S k → w'.heap[k]? = w.heap[k]?
theorem ButS.refl (S : Nat → Prop) (w : World) : ButS S w w := ⟨rfl, rfl, rfl, Nat.le_refl _, fun _ _ _ => rfl⟩
theorem ButS.drewN {S : Nat → Prop} {w w' : World} (h : ButS S w w') (n : Nat) : ButS S w (w'.drewN n) := ⟨h.os, h.tape, h.output, h.size, h.block⟩
theorem ButS.trans {S : Nat → Prop} {a b c : World} (h : ButS S a b) (k : ButS S b c) : ButS S a c :=
  ⟨k.os.trans h.os, k.tape.trans h.tape, k.output.trans h.output, Nat.le_trans h.size k.size, fun i hi h1 => (k.block i (Nat.lt_of_lt_of_le hi h.size) h1).trans (h.block i hi h1)⟩
theorem ButS.one {S : Nat → Prop} {g : Nat} {w w' : World} (hS : S g) (h : w.grownBy w' (some g)) : ButS S w w' :=
  ⟨h.os, h.tape, h.output, h.size, fun k hk h1 => h.block k hk (by intro e; injection e with e; subst e; exact h1 hS)⟩
theorem ButS.cell {S : Nat → Prop} {w w' : World} {a : Addr} {v : Value} (h : ButS S w w') (hc : w.cell? a = some v) (hne : ¬ S a.block) : w'.cell? a = some v := by
  have hb := World.block_lt_of_cell? _ _ hc
  rw [← hc]
  unfold World.cell?
  rw [h.block _ hb hne]
theorem ButS.below {S : Nat → Prop} {B : Nat} {w w' : World} (h : ButS S w w') (hB : B ≤ w.heap.size) (hr : ∀ k, S k → B ≤ k) : Below B w w' :=
  ⟨h.os, h.tape, h.output, h.size, fun k hk => h.block k (by omega) (fun e => by have := hr k e; omega)⟩
theorem ButS.of_below {S : Nat → Prop} {w w' : World} (h : Below w.heap.size w w') : ButS S w w' := ⟨h.os, h.tape, h.output, h.size, fun k hk _ => h.block k hk⟩
theorem blk_swap {S : Nat → Prop} {s q c : Nat} {ds : List (Option Addr × Nat)} (hl : ds.length = s) (hq : q < s) (hc : c < s) (h : ∀ i k, i < s → blk (d_ ds i).1 = some k → S k) :
    ∀ i k, i < s → blk (d_ ((ds.set q (d_ ds c)).set c (d_ ds q)) i).1 = some k → S k := by
  intro i k hi hb
  rw [d_set (by rw [List.length_set]; omega), d_set (by omega)] at hb
  split at hb
  · exact h q k hq hb
  · split at hb
    · exact h c k hc hb
    · exact h i k hi hb
theorem Mat.fz {w : World} {B : Nat} {O : Option Addr} {s c : Nat} {ds : List (Option Addr × Nat)} {M : List (List Nat)} (h : Mat w B O s c ds M) {i : Nat} (hi : i < s) {g : Nat} (hO : O = some ⟨g, 0, none⟩) : w.frozen? ⟨g, i, none⟩ = false := by
  have hd := h.dlen
  obtain ⟨g2, e, _, _, _, h4, _⟩ := own_at h.outer (k := i) (v := rowV s (d_ ds i)) (by rw [List.getElem?_map, List.getElem?_eq_getElem (by omega), d_get (by omega)]; rfl)
  subst hO
  injection e with e; injection e with e; subst e
  exact h4


set_option maxHeartbeats 8000000 in
set_option maxRecDepth 100000 in
theorem determinant_c (p : Nat) (B : Nat) (O : Option Addr) (s cc : Nat) (ds : List (Option Addr × Nat)) (M : List (List Nat)) (w : World) (hM : Mat w B O s cc ds M) (hs : s ≤ 16) (hp1 : 1 < p) (hp : p ≤ 2147483647) (hlt : LtM p M) (SS : Nat → Prop) (hSO : ∀ k, blk O = some k → SS k) (hSd : ∀ i k, i < s → blk (d_ ds i).1 = some k → SS k) :
    Calls Try.prog 87 #[.slice O s cc, .int .i64 (p : Int)] w fun e w' => e = .returned (.int .i64 ((detP p M : Nat) : Int)) ∧ ButS SS w w' := by
  have HD := Lib.hid (show detP p M = detGo p s ((List.range s).drop 0) (1, M) by unfold detP; rw [hM.len]; rfl)
  go_enter Try.func87, Try.ntmps87
  go_wp2
  go_loopw [14, 5] (fun i o wr => ∃ (c out : Nat) (ds' : List (Option Addr × Nat)) (M' : List (List Nat)), c ≤ s ∧ i = .int .i64 ((c : Nat) : Int) ∧ o = .int .i64 ((out : Nat) : Int) ∧ out < p ∧ Mat wr B O s cc ds' M' ∧ LtM p M' ∧ detGo p s ((List.range s).drop c) (out, M') = detP p M ∧ (∀ i k, i < s → blk (d_ ds' i).1 = some k → SS k) ∧ ButS SS w wr) (fun i _ _ => s - (intOf i).toNat)
  case atStart => exact ⟨0, 1, ds, M, Nat.zero_le _, rfl, rfl, hp1, hM, hlt, HD.out.symm, hSd, ButS.refl _ _⟩
  case round =>
    obtain ⟨c, out, ds1, M1, hc, rfl, rfl, hout, hm, hl1, hd, hS1, hb⟩ := hrel
    have HG := Lib.hid hd
    clear hd
    by_cases hcs : c < s
    · go_wp2
      go_loop [7] (fun r => ∃ q : Nat, c ≤ q ∧ q ≤ s ∧ r = .int .i64 ((q : Nat) : Int) ∧ pivGo M1 s c (s - q) q = pivR M1 s c) (fun r => s - (intOf r).toNat)
      case atStart => exact ⟨c, Nat.le_refl _, hc, rfl, rfl⟩
      case round =>
        obtain ⟨q, hcq, hqs, rfl, hpv⟩ := hrel
        have HPV := Lib.hid hpv
        clear hpv
        by_cases hqs2 : q < s
        · obtain ⟨b, hO, _, _, h1⟩ := hm.at_ hqs2
          subst hO
          obtain ⟨g, hA, _, _, h2, _⟩ := hm.put hqs2 hcs 0
          unfold rowV at h1
          rw [hA] at h1
          by_cases hz : nat_ (row_ M1 q) c = 0
          · have hdz : (((nat_ (row_ M1 q) c : Nat) : Int) == 0) = true := by simp [hz]
            have HS := Lib.hid (pivGo_step (M := M1) (c := c) hqs2 hz)
            clear hz
            go_wp2
            exact ⟨⟨q + 1, by omega, by omega, by go_num, by rw [← HS.out]; exact HPV.out⟩, by simp [intOf]; omega⟩
          · have hdz : (((nat_ (row_ M1 q) c : Nat) : Int) == 0) = false := by simp; omega
            have HPR : Hid (pivR M1 s c = q) := HPV.out.symm.trans (pivGo_stop (fun h => hz h.2))
            clear HPV
            have hdqs : (((q : Nat) : Int) == (s : Int)) = false := by simp; omega
            have HG1 : Hid (detGo p s (c :: (List.range s).drop (c + 1)) (out, M1) = detP p M) := by rw [← range_drop_succ hcs]; exact HG.out
            clear HG
            by_cases hqc : q = c
            · subst hqc
              have hdqc : (((q : Nat) : Int) != ((q : Nat) : Int)) = false := by simp
              have HG2 : Hid (detGo p s ((List.range s).drop (q + 1)) (gauM p s q out M1) = detP p M) := by
                rw [← HG1.out, detGo_some (gauS_here (by rw [HPR.out]; omega) HPR.out)]; exact rfl
              clear HG1 HPR
              have hm2 := hm
              have hl2 := hl1
              have hbW := hb
              have hS2 := hS1
              clear hm hl1 hb hA
              have HS2 := Lib.hid hS2
              clear hS2 hS1
              obtain ⟨b, hO, _, hbl, hoc⟩ := hm2.at_ hcs
              injection hO with hO; injection hO with hO; subst hO
              obtain ⟨gc, hA2, _, _, hcc, _⟩ := hm2.put hcs hcs 0
              unfold rowV at hoc
              rw [hA2] at hoc
              clear hA2
              have hpl := hl2 q q
              have hmm := mulmod out (nat_ (row_ M1 q) q) p (by omega) (by omega)
              have hpw := power_c (nat_ (row_ M1 q) q) (p - 2) p wr (by omega) (by omega) hp1 hp
              rw [show ((p - 2 : Nat) : Int) = (p : Int) - 2 by omega] at hpw
              have hinvl : powP (nat_ (row_ M1 q) q) (p - 2) p < p := powP_lt hp1
              have HGM := Lib.hid (show gauM p s q out M1 = (out * nat_ (row_ M1 q) q % p, elM p (powP (nat_ (row_ M1 q) q) (p - 2) p) s q M1) from rfl)
              have hol : out * nat_ (row_ M1 q) q % p < p := Nat.mod_lt _ (by omega)
              generalize out * nat_ (row_ M1 q) q % p = o2 at *
              generalize powP (nat_ (row_ M1 q) q) (p - 2) p = inv at *
              generalize hpv : nat_ (row_ M1 q) q = pv at *
              have HPV := Lib.hid hpv
              clear hpv
              go_wp2_with fail
              refine hpw.mono ?_
              rintro e w' ⟨rfl, rfl⟩
              clear hpw hmm hoc hcc
              try clear ho2
              have HL1 := Lib.hid hl2
              clear hl2
              go_wp2
              go_loopw [9] (fun i wr => ∃ i0 : Nat, q + 1 ≤ i0 ∧ i0 ≤ s ∧ i = .int .i64 ((i0 : Nat) : Int) ∧ Mat wr B (some ⟨b, 0, none⟩) s cc ds1 (elP p inv s q (i0 - (q + 1)) M1) ∧ ButS SS w wr) (fun i _ => s - (intOf i).toNat)
              case atStart => exact ⟨q + 1, Nat.le_refl _, by omega, by go_num, by rw [Nat.sub_self]; exact hm2, hbW⟩
              case round =>
                obtain ⟨i0, hci, his, rfl, hmE, hbE⟩ := hrel
                have HLE := Lib.hid (elP_lt (p := p) (inv := inv) (s := s) (c := q) (by omega) HL1.out (i0 - (q + 1)) (by omega))
                have HEn := Lib.hid (fun h => elP_next (p := p) (inv := inv) (s := s) (c := q) (i0 := i0) (M := M1) hci h)
                have HEa := Lib.hid (show i0 = s → elP p inv s q (i0 - (q + 1)) M1 = elM p inv s q M1 by rintro rfl; exact elP_all)
                by_cases hi : i0 < s
                · generalize elP p inv s q (i0 - (q + 1)) M1 = E at *
                  obtain ⟨_, e, _, _, hoi⟩ := hmE.at_ hi
                  injection e with e; injection e with e1; subst e1
                  obtain ⟨gi, hAi, _, _, hic, _⟩ := hmE.put hi hcs 0
                  unfold rowV at hoi
                  rw [hAi] at hoi
                  have hrl := HLE.out (i0) q
                  have hmf := mulmod (nat_ (row_ E (i0)) q) inv p (by omega) (by omega)
                  have hfl : nat_ (row_ E (i0)) q * inv % p < p := Nat.mod_lt _ (by omega)
                  have HEl := Lib.hid hmE.len
                  have HI0 := Lib.hid (show elI p inv s q E (i0) = E.set (i0) (elR p (nat_ (row_ E (i0)) q * inv % p) (row_ E q) s q (row_ E (i0))) from rfl)
                  generalize nat_ (row_ E (i0)) q * inv % p = f at *
                  generalize nat_ (row_ E (i0)) q = x0 at *
                  have HAi := Lib.hid hAi
                  clear hAi
                  go_wp2
                  clear hoi hic hmf
                  go_loopw [11] (fun j wr2 => ∃ j0 : Nat, q ≤ j0 ∧ j0 ≤ s ∧ j = .int .i64 ((j0 : Nat) : Int) ∧ Mat wr2 B (some ⟨b, 0, none⟩) s cc ds1 (E.set (i0) (rwP p f s q (j0 - q) (row_ E q) (row_ E (i0)))) ∧ ButS SS w wr2) (fun j _ => s - (intOf j).toNat)
                  case atStart => exact ⟨q, Nat.le_refl _, by omega, rfl, by
                    have e : E.set (i0) (rwP p f s q (q - q) (row_ E q) (row_ E (i0))) = E := by
                      have hlen := HEl.out
                      rw [Nat.sub_self]
                      show E.set _ (row_ E (i0)) = E
                      rw [row_get (by omega)]; exact List.set_getElem_self (by omega)
                    rw [e]; exact hmE, hbE⟩
                  case round =>
                    obtain ⟨j0, hcj, hjs, rfl, hm3, hb3⟩ := hrel
                    by_cases hj : j0 < s
                    · have HR1 := Lib.hid (rowset_self (x := rwP p f s q (j0 - q) (row_ E q) (row_ E (i0))) (show i0 < E.length by rw [HEl.out]; exact hi))
                      have HR2 := Lib.hid (rowset_ne (x := rwP p f s q (j0 - q) (row_ E q) (row_ E (i0))) (show i0 < E.length by rw [HEl.out]; exact hi) (show i0 ≠ q by omega))
                      have hl3 := rwP_lt (p := p) (f := f) (s := s) (c := q) (q := j0 - q) (top := row_ E q) (by omega) (HLE.out (i0)) (j0)
                      have HN := Lib.hid (rwP_next (p := p) (f := f) (top := row_ E q) (row := row_ E (i0)) hcj hj)
                      have htl := HLE.out q (j0)
                      generalize rwP p f s q (j0 - q) (row_ E q) (row_ E (i0)) = R at *
                      have HNr : Hid (rwP p f s q (j0 + 1 - q) (row_ E q) (row_ E (i0)) = R.set (j0) ((nat_ R (j0) + (p - f) * nat_ (row_ E q) (j0)) % p)) := HN.out
                      have helm := elim_op (nat_ R (j0)) f (nat_ (row_ E q) (j0)) p hl3 hfl htl hp
                      obtain ⟨_, e, _, _, h1o⟩ := hm3.at_ hi
                      injection e with e; injection e with e1; subst e1
                      obtain ⟨_, e, _, _, h2o⟩ := hm3.at_ hcs
                      injection e with e; injection e with e1; subst e1
                      obtain ⟨gi2, hA1, _, _, h1c, h1f, h1s, h1g⟩ := hm3.put hi hj ((nat_ R (j0) + (p - f) * nat_ (row_ E q) (j0)) % p)
                      have hgS : SS gi2 := HS2.out _ gi2 hi (by rw [hA1]; rfl)
                      obtain ⟨gc2, hA2, _, _, h2c, _⟩ := hm3.put hcs hj 0
                      unfold rowV at h1o h2o
                      rw [hA1] at h1o
                      rw [hA2] at h2o
                      rw [HR1.out] at h1c
                      rw [HR2.out] at h2c
                      rw [HR1.out, List.set_set] at h1s
                      have HS := Lib.hid h1s
                      have HG1 := Lib.hid h1g
                      clear h1s h1g hA1 hA2 HAi
                      generalize hV : (nat_ R (j0) + (p - f) * nat_ (row_ E q) (j0)) % p = V at *
                      have HV := Lib.hid hV
                      clear hV
                      generalize nat_ R (j0) = ra at *
                      generalize nat_ (row_ E q) (j0) = ta at *
                      obtain ⟨v1, v2, v3, e1, e2, e3, e4⟩ := helm
                      have hpz : ¬ p = 0 := by omega
                      go_wp2
                      go_still_tail 27, (by kernel_rfl)
                      clear e1 e2 e3 e4
                      go_wp2
                      refine ⟨⟨j0 + 1, by omega, by omega, by go_num, by rw [HNr.out]; exact HS.out.below (below_q _ 1), (hb3.trans (ButS.one hgS HG1.out)).drewN 1⟩, by simp [intOf]; omega⟩
                    · have hje : s ≤ j0 := by omega
                      go_wp2
                      refine ⟨⟨i0 + 1, by omega, by omega, by go_num, ?_, hb3⟩, by simp [intOf]; omega⟩
                      obtain rfl : j0 = s := by omega
                      rw [HEn.out (by omega), HI0.out, ← rwP_all]
                      exact hm3
                · have hie : s ≤ i0 := by omega
                  go_wp2
                  refine ⟨⟨q + 1, o2, ds1, elM p inv s q M1, by omega, by go_num, rfl, hol, ?_, ?_, ?_, HS2.out, hbE⟩, by simp [intOf]; omega⟩
                  · rw [← HEa.out (by omega)]; exact hmE
                  · rw [← HEa.out (by omega)]; exact HLE.out
                  · rw [← HGM.out]; exact HG2.out
            · have hdqc : (((q : Nat) : Int) != ((c : Nat) : Int)) = true := by simp; omega
              have HG2 : Hid (detGo p s ((List.range s).drop (c + 1)) (gauM p s c (p - out) (swapM M1 q c)) = detP p M) := by
                rw [← HG1.out, detGo_some (gauS_swap HPR.out (by omega) hqc)]; exact rfl
              have HSW := Lib.hid (hm.swap hqs2 hcs b rfl)
              have HLS := Lib.hid (hl1.swap q c)
              obtain ⟨_, e, hBb, _, h3⟩ := hm.at_ hcs
              injection e with e; injection e with e1; subst e1
              unfold rowV at HSW
              rw [hA] at HSW
              unfold rowV at h3
              have hf1 := hm.fz hcs rfl
              have hf2 := hm.fz hqs2 rfl
              clear HG1 HPR hl1
              go_wp2
              go_region
              generalize hW : World.drew _ = W2
              have hm2 : Mat W2 B (some ⟨b, 0, none⟩) s cc ((ds1.set q (d_ ds1 c)).set c (d_ ds1 q)) (swapM M1 q c) := by rw [← hW]; exact HSW.out.1.below (below_q _ 1)
              have hbW : ButS SS w W2 := by rw [← hW]; exact (hb.trans (ButS.one (hSO b rfl) HSW.out.2)).drewN 1
              have hS2 := blk_swap hm.dlen hqs2 hcs hS1
              have hl2 : LtM p (swapM M1 q c) := HLS.out
              clear HSW HLS h1 h2 h3 hf1 hf2 hm hW hA
              generalize swapM M1 q c = M2 at *
              generalize (ds1.set q (d_ ds1 c)).set c (d_ ds1 q) = ds2 at *
              obtain ⟨o1, ho1⟩ : ∃ o1, p - out = o1 := ⟨_, rfl⟩
              rw [ho1] at HG2
              have ho2 : (p : Int) - (out : Int) = (o1 : Int) := by omega
              clear ho1
              have HS2 := Lib.hid hS2
              clear hS2 hS1
              obtain ⟨b, hO, _, hbl, hoc⟩ := hm2.at_ hcs
              injection hO with hO; injection hO with hO; subst hO
              obtain ⟨gc, hA2, _, _, hcc, _⟩ := hm2.put hcs hcs 0
              unfold rowV at hoc
              rw [hA2] at hoc
              clear hA2
              have hpl := hl2 c c
              have hmm := mulmod o1 (nat_ (row_ M2 c) c) p (by omega) (by omega)
              have hpw := power_c (nat_ (row_ M2 c) c) (p - 2) p W2 (by omega) (by omega) hp1 hp
              rw [show ((p - 2 : Nat) : Int) = (p : Int) - 2 by omega] at hpw
              have hinvl : powP (nat_ (row_ M2 c) c) (p - 2) p < p := powP_lt hp1
              have HGM := Lib.hid (show gauM p s c o1 M2 = (o1 * nat_ (row_ M2 c) c % p, elM p (powP (nat_ (row_ M2 c) c) (p - 2) p) s c M2) from rfl)
              have hol : o1 * nat_ (row_ M2 c) c % p < p := Nat.mod_lt _ (by omega)
              generalize o1 * nat_ (row_ M2 c) c % p = o2 at *
              generalize powP (nat_ (row_ M2 c) c) (p - 2) p = inv at *
              generalize hpv : nat_ (row_ M2 c) c = pv at *
              have HPV := Lib.hid hpv
              clear hpv
              go_wp2_with fail
              refine hpw.mono ?_
              rintro e w' ⟨rfl, rfl⟩
              clear hpw hmm hoc hcc
              try clear ho2
              have HL1 := Lib.hid hl2
              clear hl2
              go_wp2
              go_loopw [9] (fun i wr => ∃ i0 : Nat, c + 1 ≤ i0 ∧ i0 ≤ s ∧ i = .int .i64 ((i0 : Nat) : Int) ∧ Mat wr B (some ⟨b, 0, none⟩) s cc ds2 (elP p inv s c (i0 - (c + 1)) M2) ∧ ButS SS w wr) (fun i _ => s - (intOf i).toNat)
              case atStart => exact ⟨c + 1, Nat.le_refl _, by omega, by go_num, by rw [Nat.sub_self]; exact hm2, hbW⟩
              case round =>
                obtain ⟨i0, hci, his, rfl, hmE, hbE⟩ := hrel
                have HLE := Lib.hid (elP_lt (p := p) (inv := inv) (s := s) (c := c) (by omega) HL1.out (i0 - (c + 1)) (by omega))
                have HEn := Lib.hid (fun h => elP_next (p := p) (inv := inv) (s := s) (c := c) (i0 := i0) (M := M2) hci h)
                have HEa := Lib.hid (show i0 = s → elP p inv s c (i0 - (c + 1)) M2 = elM p inv s c M2 by rintro rfl; exact elP_all)
                by_cases hi : i0 < s
                · generalize elP p inv s c (i0 - (c + 1)) M2 = E at *
                  obtain ⟨_, e, _, _, hoi⟩ := hmE.at_ hi
                  injection e with e; injection e with e1; subst e1
                  obtain ⟨gi, hAi, _, _, hic, _⟩ := hmE.put hi hcs 0
                  unfold rowV at hoi
                  rw [hAi] at hoi
                  have hrl := HLE.out (i0) c
                  have hmf := mulmod (nat_ (row_ E (i0)) c) inv p (by omega) (by omega)
                  have hfl : nat_ (row_ E (i0)) c * inv % p < p := Nat.mod_lt _ (by omega)
                  have HEl := Lib.hid hmE.len
                  have HI0 := Lib.hid (show elI p inv s c E (i0) = E.set (i0) (elR p (nat_ (row_ E (i0)) c * inv % p) (row_ E c) s c (row_ E (i0))) from rfl)
                  generalize nat_ (row_ E (i0)) c * inv % p = f at *
                  generalize nat_ (row_ E (i0)) c = x0 at *
                  have HAi := Lib.hid hAi
                  clear hAi
                  go_wp2
                  clear hoi hic hmf
                  go_loopw [11] (fun j wr2 => ∃ j0 : Nat, c ≤ j0 ∧ j0 ≤ s ∧ j = .int .i64 ((j0 : Nat) : Int) ∧ Mat wr2 B (some ⟨b, 0, none⟩) s cc ds2 (E.set (i0) (rwP p f s c (j0 - c) (row_ E c) (row_ E (i0)))) ∧ ButS SS w wr2) (fun j _ => s - (intOf j).toNat)
                  case atStart => exact ⟨c, Nat.le_refl _, by omega, rfl, by
                    have e : E.set (i0) (rwP p f s c (c - c) (row_ E c) (row_ E (i0))) = E := by
                      have hlen := HEl.out
                      rw [Nat.sub_self]
                      show E.set _ (row_ E (i0)) = E
                      rw [row_get (by omega)]; exact List.set_getElem_self (by omega)
                    rw [e]; exact hmE, hbE⟩
                  case round =>
                    obtain ⟨j0, hcj, hjs, rfl, hm3, hb3⟩ := hrel
                    by_cases hj : j0 < s
                    · have HR1 := Lib.hid (rowset_self (x := rwP p f s c (j0 - c) (row_ E c) (row_ E (i0))) (show i0 < E.length by rw [HEl.out]; exact hi))
                      have HR2 := Lib.hid (rowset_ne (x := rwP p f s c (j0 - c) (row_ E c) (row_ E (i0))) (show i0 < E.length by rw [HEl.out]; exact hi) (show i0 ≠ c by omega))
                      have hl3 := rwP_lt (p := p) (f := f) (s := s) (c := c) (q := j0 - c) (top := row_ E c) (by omega) (HLE.out (i0)) (j0)
                      have HN := Lib.hid (rwP_next (p := p) (f := f) (top := row_ E c) (row := row_ E (i0)) hcj hj)
                      have htl := HLE.out c (j0)
                      generalize rwP p f s c (j0 - c) (row_ E c) (row_ E (i0)) = R at *
                      have HNr : Hid (rwP p f s c (j0 + 1 - c) (row_ E c) (row_ E (i0)) = R.set (j0) ((nat_ R (j0) + (p - f) * nat_ (row_ E c) (j0)) % p)) := HN.out
                      have helm := elim_op (nat_ R (j0)) f (nat_ (row_ E c) (j0)) p hl3 hfl htl hp
                      obtain ⟨_, e, _, _, h1o⟩ := hm3.at_ hi
                      injection e with e; injection e with e1; subst e1
                      obtain ⟨_, e, _, _, h2o⟩ := hm3.at_ hcs
                      injection e with e; injection e with e1; subst e1
                      obtain ⟨gi2, hA1, _, _, h1c, h1f, h1s, h1g⟩ := hm3.put hi hj ((nat_ R (j0) + (p - f) * nat_ (row_ E c) (j0)) % p)
                      have hgS : SS gi2 := HS2.out _ gi2 hi (by rw [hA1]; rfl)
                      obtain ⟨gc2, hA2, _, _, h2c, _⟩ := hm3.put hcs hj 0
                      unfold rowV at h1o h2o
                      rw [hA1] at h1o
                      rw [hA2] at h2o
                      rw [HR1.out] at h1c
                      rw [HR2.out] at h2c
                      rw [HR1.out, List.set_set] at h1s
                      have HS := Lib.hid h1s
                      have HG1 := Lib.hid h1g
                      clear h1s h1g hA1 hA2 HAi
                      generalize hV : (nat_ R (j0) + (p - f) * nat_ (row_ E c) (j0)) % p = V at *
                      have HV := Lib.hid hV
                      clear hV
                      generalize nat_ R (j0) = ra at *
                      generalize nat_ (row_ E c) (j0) = ta at *
                      obtain ⟨v1, v2, v3, e1, e2, e3, e4⟩ := helm
                      have hpz : ¬ p = 0 := by omega
                      go_wp2
                      go_still_tail 27, (by kernel_rfl)
                      clear e1 e2 e3 e4
                      go_wp2
                      refine ⟨⟨j0 + 1, by omega, by omega, by go_num, by rw [HNr.out]; exact HS.out.below (below_q _ 1), (hb3.trans (ButS.one hgS HG1.out)).drewN 1⟩, by simp [intOf]; omega⟩
                    · have hje : s ≤ j0 := by omega
                      go_wp2
                      refine ⟨⟨i0 + 1, by omega, by omega, by go_num, ?_, hb3⟩, by simp [intOf]; omega⟩
                      obtain rfl : j0 = s := by omega
                      rw [HEn.out (by omega), HI0.out, ← rwP_all]
                      exact hm3
                · have hie : s ≤ i0 := by omega
                  go_wp2
                  refine ⟨⟨c + 1, o2, ds2, elM p inv s c M2, by omega, by go_num, rfl, hol, ?_, ?_, ?_, HS2.out, hbE⟩, by simp [intOf]; omega⟩
                  · rw [← HEa.out (by omega)]; exact hmE
                  · rw [← HEa.out (by omega)]; exact HLE.out
                  · rw [← HGM.out]; exact HG2.out
        · obtain rfl : q = s := by omega
          have HPR : Hid (pivR M1 q c = q) := HPV.out.symm.trans (pivGo_stop (fun h => hqs2 h.1))
          have HZ : Hid (detP p M = 0) := by
            rw [← HG.out, range_drop_succ hcs, detGo_none (gauS_none HPR.out)]; exact rfl
          clear HPV HG
          go_wp2
          go_ret
          rw [HZ.out]
          exact ⟨rfl, hb⟩
    · obtain rfl : c = s := by omega
      have HZ : Hid (detP p M = out) := by
        rw [← HG.out, List.drop_of_length_le (by simp)]; rfl
      go_wp2
      go_ret
      rw [HZ.out]
      exact ⟨rfl, hb⟩

end Go.Proofs.Ytpfbichomgojoaa
