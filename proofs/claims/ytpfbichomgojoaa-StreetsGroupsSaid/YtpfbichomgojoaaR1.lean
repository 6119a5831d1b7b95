/- The arguments of the laws: a slice of streets, a slice of numbers, an array of three numbers, as the walks read them. -/
import Derived.Test.YtpfbichomgojoaaK
import Derived.Test.YtpfbichomgojoaaRows
import Derived.WalkKit
import Derived.ProofKit
import Derived.OpenShut
import Derived.Below
import Derived.Deep.Slices
import Derived.Deep.Fields
namespace Go.Proofs.Ytpfbichomgojoaa
open Go.ChangeShapes Go.WideShapes Go.ChangeAt Go.RowKit Go.Deep

theorem own : ownKnob Try.prog.godebug = none := by kernel_rfl
theorem laidOut : laidOutB Try.prog = true := by kernel_rfl
theorem cells42 : Try.prog.cellsOf 42 = 3 := by kernel_rfl
theorem cells3 : Try.prog.cellsOf 3 = 1 := by kernel_rfl

section
variable {H : Type} {enc : TypeId × Value → H} {w : World}
set_option maxRecDepth 100000 in
/-- A slice of streets that came in. -/
theorem open_streets {A : Option Addr} {m c : Nat} {d : DataW H} {p : List MemPlace} (h : DataW.Trod enc Try.prog w 0 (fun _ => true) true 22 (.slice A m c) d p) :
    ∃ ss, RdS w A m ss ∧ m ≤ c ∧ m ≤ 9223372036854775807 := by
  obtain ⟨fuel, hf⟩ := h
  rcases open_slice Try.underlying22 hf with ⟨hcs, _⟩ | ⟨a, len, cap, k, n, D, Pl, hcs, _, hl, hm, hk, _, hi⟩
  · simp [Value.cells] at hcs
    obtain ⟨rfl, rfl, rfl⟩ := hcs
    exact ⟨[], ⟨rfl, Cells.nil _ _⟩, Nat.le_refl _, by omega⟩
  · simp [Value.cells] at hcs
    obtain ⟨rfl, rfl, rfl⟩ := hcs
    have hk : k = c := by simpa using hk
    subst hk
    have hm' : k ≤ 9223372036854775807 := hm
    have hex : ∀ i, ∃ s : St, i < m → w.cell? (a.add (i * 3)) = some (.int .i64 s.a) ∧ w.cell? (a.add (i * 3 + 1)) = some (.int .i64 s.b) ∧ w.cell? (a.add (i * 3 + 2)) = some (.int .i64 s.w) := fun i => by
      by_cases him : i < m
      · obtain ⟨cs, hc, ht⟩ := hi i (by omega)
        rw [cells42] at hc
        obtain ⟨_, hcl, hat⟩ := World.cells?_some hc
        clear hc
        match cs, hcl, ht, hat with
        | [c0, c1, c2], _, ht, hat =>
          obtain ⟨ys, n', _, _, hlen, hyl, hfd⟩ := DataW.trod_struct Try.underlying42 ht
          have f0 : DataW.trod enc Try.prog w 0 (fun _ => true) true n' 3 (([c0, c1, c2].drop 0).take (Try.prog.cellsOf 3)) = ys[0]? := hfd 0 _ rfl
          have f1 : DataW.trod enc Try.prog w 0 (fun _ => true) true n' 3 (([c0, c1, c2].drop 1).take (Try.prog.cellsOf 3)) = ys[1]? := hfd 1 _ rfl
          have f2 : DataW.trod enc Try.prog w 0 (fun _ => true) true n' 3 (([c0, c1, c2].drop 2).take (Try.prog.cellsOf 3)) = ys[2]? := hfd 2 _ rfl
          rw [cells3] at f0 f1 f2
          have hy : ys.length = 3 := hyl
          replace f0 : DataW.trod enc Try.prog w 0 (fun _ => true) true n' 3 [c0] = ys[0]? := f0
          replace f1 : DataW.trod enc Try.prog w 0 (fun _ => true) true n' 3 [c1] = ys[1]? := f1
          replace f2 : DataW.trod enc Try.prog w 0 (fun _ => true) true n' 3 [c2] = ys[2]? := f2
          rw [List.getElem?_eq_getElem (by omega)] at f0 f1 f2
          obtain ⟨x, e0, _⟩ := DataW.trod_int Try.underlying3 f0
          obtain ⟨y, e1, _⟩ := DataW.trod_int Try.underlying3 f1
          obtain ⟨z, e2, _⟩ := DataW.trod_int Try.underlying3 f2
          simp only [List.cons.injEq, and_true] at e0 e1 e2
          subst e0 e1 e2
          have g0 := hat 0 (by omega)
          have g1 := hat 1 (by omega)
          have g2 := hat 2 (by omega)
          rw [add_add] at g0 g1 g2
          exact ⟨⟨x, y, z⟩, fun _ => ⟨g0, g1, g2⟩⟩
      · exact ⟨⟨0, 0, 0⟩, fun h => absurd h him⟩
    obtain ⟨f, hf⟩ := Classical.axiomOfChoice hex
    refine ⟨(List.range m).map f, ⟨by simp, ?_⟩, hl, by omega⟩
    have hst : ∀ i, i < m → st_ ((List.range m).map f) i = f i := fun i hi => by
      unfold st_
      rw [List.getD_eq_getElem?_getD, List.getElem?_map, List.getElem?_range hi]; rfl
    intro j hj
    rw [sv_length, List.length_map, List.length_range] at hj
    have hj3 : j / 3 < m := by omega
    obtain ⟨h0, h1, h2⟩ := hf (j / 3) hj3
    obtain ⟨g0, g1, g2⟩ := sv_get ((List.range m).map f) (j / 3) (by simpa using hj3)
    rw [hst _ hj3] at g0 g1 g2
    obtain ⟨b, o, sp⟩ := a
    have hsp : sp = none := by
      have := World.cell?_spot (hf 0 (by omega)).1
      simpa [Addr.add] using this
    subst hsp
    refine ⟨b, o, rfl, ?_⟩
    rw [Addr.add_lit] at h0 h1 h2
    have hq : j = j / 3 * 3 ∨ j = j / 3 * 3 + 1 ∨ j = j / 3 * 3 + 2 := by omega
    generalize j / 3 = q at *
    rcases hq with rfl | rfl | rfl
    · rw [g0, h0]
    · rw [g1, ← h1]
    · rw [g2, ← h2]
end

end Go.Proofs.Ytpfbichomgojoaa
