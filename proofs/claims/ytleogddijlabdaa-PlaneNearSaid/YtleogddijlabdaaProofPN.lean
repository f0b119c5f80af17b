/-
  The law mosaiclaw17.PlaneNear returns true for every place and every slice of places, and leaves its arguments as they were. No condition.
-/
import Derived.Test.YtleogddijlabdaaRows
import Derived.Test.YtleogddijlabdaaLawPN
import Derived.ProofKit
import Derived.OpenShut
import Derived.Carry
import Derived.Deep.SlicePairs
import Derived.Lib.SmallJoins
set_option linter.unusedSimpArgs false
set_option linter.unusedVariables false
namespace Go.Proofs.Ytleogddijlabdaa.planeNear
open Go.ChangeShapes Go.WideShapes Go.ChangeAt Go.RowKit Go.Deep Go.Joins

theorem add_none (b o k : Nat) : (⟨b, o, none⟩ : Addr).add k = ⟨b, o + k, none⟩ := by
  simp only [Addr.add]
  split
  · rename_i h; subst h; rfl
  · rfl

theorem own : ownKnob Try.prog.godebug = none := by kernel_rfl
theorem laidOut : laidOutB Try.prog = true := by kernel_rfl

set_option maxRecDepth 100000 in
theorem lifted (os : Os) (started : os.Started) (H : Type) (enc : TypeId × Value → H) :
    ReturnsInHanded {} Try.checked os 3 .any (Rows.planeNearSpec.pre6 enc Try.prog Try.f3 Rows.planeNearRow.domain false) (Rows.planeNearSpec.post enc Try.prog Try.f3 false true false false) := by
  refine returnsInHanded_of_change (C := Try.checked) own started (by kernel_rfl) Try.func3
    (ChangeSpec.witness6 (enc := enc) (C := Try.checked) false ⟨#[], #[.agg #[.int .i64 0, .int .i64 0], .slice none 0 0], []⟩ 8 (by kernel_rfl) (by kernel_rfl) (by kernel_rfl) (by kernel_rfl)) ?_
  intro W base args ds gs before hval0 hW hcnd _
  have hval : ∀ (j : Nat) t v, Try.f3.params[j]? = some t → args[j]? = some v → Value.okWide Try.prog W .any base t v := hval0
  have hW' := hW
  obtain ⟨p, q, hA0, hV, rfl, hfz, hnd⟩ := hW
  have hA : DataW.TrodAll enc Try.prog W 0 (fun _ => true) true Try.f3.params.toList args.toList ds p := hA0
  rw [Try.params3] at hA hval
  obtain ⟨v0, vs0, d0, ds0, p0, q0, hargs, rfl, rfl, h0, r0⟩ := trodAll_cons hA
  obtain ⟨v1, vs1, d1, ds1, p1, q1, rfl, rfl, rfl, h1, r1⟩ := trodAll_cons r0
  obtain ⟨rfl, rfl, rfl⟩ := trodAll_nil r1
  obtain rfl : args = #[v0, v1] := by cases args; simp_all
  obtain ⟨rfl, rfl⟩ := trodVars_none hV
  have k0 := h0
  have k1 := h1
  have lt0 : ∀ x ∈ p0, x.block < W.heap.size := by obtain ⟨m, hm⟩ := k0; exact DataW.trod_lt m _ _ _ hm
  have lt1 : ∀ x ∈ p1, x.block < W.heap.size := by obtain ⟨m, hm⟩ := k1; exact DataW.trod_lt m _ _ _ hm
  obtain ⟨c0, c1, y0, y1, m, rfl, _, _, e0, e1⟩ := open_agg2 Try.underlying23 (by kernel_rfl) (by kernel_rfl) (hval 0 23 v0 rfl rfl) h0
  obtain ⟨x, hx0, _, _⟩ := DataW.trod_int Try.underlying3 e0
  obtain ⟨y, hy0, _, _⟩ := DataW.trod_int Try.underlying3 e1
  simp at hx0 hy0
  subst hx0 hy0
  obtain ⟨a, len, cap, rfl⟩ := okWide_slice Try.underlying24 (hval 1 24 v1 rfl rfl)
  obtain ⟨px, py, hpl, hlen⟩ : ∃ px py, Places W (.slice a len cap) len px py ∧ len ≤ 9223372036854775807 := by
    obtain ⟨fuel, hf⟩ := h1
    rcases open_slice_pairs Try.underlying24 Try.underlying23 (by kernel_rfl) rfl rfl (by kernel_rfl) (by kernel_rfl) hf with ⟨hcs, _⟩ | ⟨ad, len', cap', mm, n, V0, V1, D0, D1, P0, P1, hcs, _, hl, hm, hmm, _, hcell⟩
    · simp [Value.cells] at hcs
      obtain ⟨rfl, rfl, rfl⟩ := hcs
      exact ⟨fun _ => 0, fun _ => 0, Or.inl ⟨⟨_, _, rfl⟩, rfl⟩, by omega⟩
    · simp [Value.cells] at hcs
      obtain ⟨rfl, rfl, rfl⟩ := hcs
      have hlm : len ≤ mm := by rw [hmm]; split <;> omega
      unfold maxLen at hm
      by_cases hz : len = 0
      · subst hz; exact ⟨fun _ => 0, fun _ => 0, Or.inl ⟨⟨_, _, rfl⟩, rfl⟩, by omega⟩
      · obtain ⟨b, off, spot⟩ := ad
        have hspot : spot = none := by simpa [Addr.add] using World.cell?_spot (hcell 0 (by omega)).1
        subst hspot
        refine ⟨fun i => intOf (V0 i), fun i => intOf (V1 i), Or.inr ⟨b, off, cap, rfl, fun i hi => ?_⟩, by omega⟩
        obtain ⟨g0, g1, t0, t1⟩ := hcell i (by omega)
        obtain ⟨u0, hu0, _, _⟩ := DataW.trod_int Try.underlying3 t0
        obtain ⟨u1, hu1, _, _⟩ := DataW.trod_int Try.underlying3 t1
        simp at hu0 hu1
        have q0 : intOf (V0 i) = u0 := by rw [hu0]; rfl
        have q1 : intOf (V1 i) = u1 := by rw [hu1]; rfl
        rw [hu0] at g0
        rw [hu1] at g1
        simp only [q0, q1]
        rw [add_none] at g0 g1
        exact ⟨g0, by rw [Nat.add_assoc]; exact g1⟩
  refine (PlaneNear_walk x y _ len px py W hlen hpl).mono fun e W' ⟨he, bel⟩ => ?_
  subst he
  have bel' : Below W.heap.size W W' := bel
  exact ⟨_, rfl, _, _, _, [], _, [], hW', trodAll_mk1 (shut_bool Try.underlying4 _),
    (trodAll_cons_mk (Below.trod laidOut (by kernel_rfl) (of_decide_eq_true (by kernel_rfl)) k0 bel' lt0) (trodAll_cons_mk (Below.trod laidOut (by kernel_rfl) (of_decide_eq_true (by kernel_rfl)) k1 bel' lt1) trodAll_mk0)), rfl, bel'.frame _, fun h => by cases h⟩

theorem over : Rows.planeNearRow.holds Try.pinned (OpenSpec.ofChange Rows.planeNearSpec) :=
  OpenClaim.holds_of_wide 3 Try.f3 rfl rfl rfl rfl rfl rfl rfl ⟨rfl, rfl, rfl, rfl, rfl⟩ rfl rfl rfl rfl rfl (by kernel_rfl) Try.func3 (by kernel_rfl)
    (of_decide_eq_true (by kernel_rfl)) (by unfold Func.isWrapper; first | (rw [if_pos (by decide +kernel)]; kernel_rfl) | (rw [if_neg (by decide +kernel)]; exact ⟨rfl, rfl⟩))
    (fun os started H enc _ => lifted os started H enc)

end Go.Proofs.Ytleogddijlabdaa.planeNear
namespace Go.Proofs.Ytleogddijlabdaa
theorem planeNear_holds : Rows.PlaneNearSaid := planeNear.over
#print axioms planeNear_holds
end Go.Proofs.Ytleogddijlabdaa
