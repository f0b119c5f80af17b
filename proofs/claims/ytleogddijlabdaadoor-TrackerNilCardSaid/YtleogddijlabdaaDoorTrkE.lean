/- Two entries held against one another. -/
import Derived.Test.YtleogddijlabdaaDoorTrkD
set_option linter.unusedSimpArgs false
set_option linter.unusedVariables false
namespace Go.Proofs.YtleogddijlabdaaDoor
open Go.RowKit Go.Maps

def allNone (Q : Nat → Option Nat) : Nat → Bool
  | 0 => true
  | k + 1 => allNone Q k && (Q k).isNone

theorem eql_ptr (d : Nat) (q : Option Nat) (w : World) : (Op.equalIn (d + 1) 64 (ptrTo q) (.pointer none)).run Tryd.prog w = .ok q.isNone w := by
  cases q <;> simp [Op.equalIn, run_underlying Tryd.underlying64, ptrTo]

theorem part_ptr (Q : Nat → Option Nat) (i : Nat) (hi : i < 16) (w : World) : (part 64 (ptrs Q) i).run Tryd.prog w = .ok (ptrTo (Q i)) w := by
  have hagg : (isAgg 64).run Tryd.prog w = .ok false w := by kernel_rfl
  unfold part
  simp only [Sem.run_bind, hagg, Result.andThen_ok, Bool.false_eq_true, if_false, ptrs_get Q hi, Sem.run_pure]

theorem loop_ent (Q : Nat → Option Nat) (d : Nat) (f : Nat → Option Bool × Unit → Sem (ForInStep (Option Bool × Unit)))
    (hf : ∀ i, i < 16 → ∀ (r : Option Bool × Unit) (w : World), (f i r).run Tryd.prog w = .ok (if (Q i).isNone then .yield (none, ()) else .done (some false, ())) w) :
    ∀ (n s : Nat), s + n ≤ 16 → ∀ w : World, (forIn (List.range' s n 1) ((none, ()) : Option Bool × Unit) f).run Tryd.prog w = .ok (if (List.range' s n 1).all (fun i => (Q i).isNone) then (none, ()) else (some false, ())) w := by
  intro n
  induction n with
  | zero => intro s h w; simp [Sem.run_pure]
  | succ n ih =>
    intro s h w
    rw [List.range'_succ, List.forIn_cons]
    simp only [Sem.run_bind, hf s (by omega), Result.andThen_ok]
    cases hq : (Q s).isNone with
    | true =>
      simp only [if_true]
      rw [ih (s + 1) (by omega) w, List.all_cons, hq, Bool.true_and]
    | false => simp [hq, Sem.run_pure]

theorem eql_entIn (Q : Nat → Option Nat) (d : Nat) (w : World) : (Op.equalIn (d + 1 + 1) 66 (.agg (ptrs Q)) (.agg (ptrs fun _ => none))).run Tryd.prog w = .ok ((List.range' 0 16 1).all (fun i => (Q i).isNone)) w := by
  have hsz : ∀ w, (sizeOf 64).run Tryd.prog w = .ok 1 w := fun _ => by kernel_rfl
  rw [Op.equalIn.eq_def]
  simp only [Sem.run_bind, run_underlying Tryd.underlying66, Result.andThen_ok, hsz]
  rw [Std.Legacy.Range.forIn_eq_forIn_range', show List.range' [:16].start [:16].size [:16].step = List.range' 0 16 1 from rfl]
  rw [loop_ent Q d _ (fun i hi r w => ?_) 16 0 (by omega) w]
  · cases h : (List.range' 0 16 1).all (fun i => (Q i).isNone) <;> simp [h, Sem.run_pure]
  · have h1 := part_ptr Q i hi w
    have h2 := part_ptr (fun _ => none) i hi w
    have h3 := eql_ptr d (Q i) w
    simp only [Nat.mul_one, Sem.run_bind, h1, h2, Result.andThen_ok]
    rw [show ptrTo none = Value.pointer none from rfl, h3]
    cases (Q i).isNone <;> simp [Sem.run_pure]

theorem eql_ent (Q : Nat → Option Nat) (w : World) : (binOp .eql 66 (.agg (ptrs Q)) (.agg (ptrs fun _ => none))).run Tryd.prog w = .ok (.bool ((List.range' 0 16 1).all (fun i => (Q i).isNone))) w := by
  rw [run_eql_struct, eql_entIn Q 9998 w]; rfl

end Go.Proofs.YtleogddijlabdaaDoor
