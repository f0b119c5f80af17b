/- The law's name of a number. -/
import Derived.Test.YtleogddijlabdaaDoorTrkA
set_option linter.unusedSimpArgs false
set_option linter.unusedVariables false
namespace Go.Proofs.YtleogddijlabdaaDoor
open Go.RowKit

def zeros32 : Array Value := Array.replicate 32 (.int .u8 0)
/-- The bytes of the name of a number. -/
def nameNs (k : Nat) : List Int := (k : Int) :: List.replicate 31 0
def nameB (k : Nat) : ByteArray := (nameNs k).foldl (fun r n => r.push (UInt8.ofNat n.toNat)) ByteArray.empty

theorem fold_push (ns : List Int) : ∀ s : ByteArray, (ns.foldl (fun r n => r.push (UInt8.ofNat n.toNat)) s).data.toList = s.data.toList ++ ns.map fun n => UInt8.ofNat n.toNat := by
  induction ns with
  | nil => intro s; simp
  | cons n ns ih => intro s; rw [List.foldl_cons, ih]; simp

theorem nameB_list (k : Nat) : (nameB k).data.toList = UInt8.ofNat k :: List.replicate 31 0 := by
  unfold nameB nameNs
  rw [fold_push]
  simp
theorem nameB_size (k : Nat) : (nameB k).size = 32 := by
  have := congrArg List.length (nameB_list k)
  simpa using this
theorem nameB_inj {j k : Nat} (hj : j ≤ 255) (hk : k ≤ 255) (h : (nameB j).data.toList = (nameB k).data.toList) : j = k := by
  rw [nameB_list, nameB_list] at h
  have h1 : UInt8.ofNat j = UInt8.ofNat k := by simpa using h
  have h2 := congrArg UInt8.toNat h1
  simp [UInt8.toNat_ofNat'] at h2
  omega

theorem zeros_cell (k : Nat) (j : Nat) (hj : j < 32) : (zeros32.setIfInBounds 0 (.int .u8 (k : Int)))[j]? = (nameNs k)[j]?.map (Value.int .u8) := by
  unfold zeros32 nameNs
  by_cases h0 : j = 0
  · subst h0; simp
  · obtain ⟨i, rfl⟩ : ∃ i, j = i + 1 := ⟨j - 1, by omega⟩
    rw [Array.getElem?_setIfInBounds_ne (by omega), List.getElem?_cons_succ, List.getElem?_replicate, if_pos (by omega), Array.getElem?_replicate, if_pos (by omega)]
    rfl

theorem name_conv (k : Nat) (w : World) : (convert 72 9 (.slice (some ⟨w.heap.size, 0, none⟩) 32 32)).run Tryd.prog (w.alloc (.cells (zeros32.setIfInBounds 0 (.int .u8 (k : Int))) 5)) =
    .ok (.string (nameB k)) (w.alloc (.cells (zeros32.setIfInBounds 0 (.int .u8 (k : Int))) 5)) := by
  rw [run_convert_bytes_string _ _ _ _ _ _ _ Tryd.underlying72 Tryd.underlying5 Tryd.underlying9]
  refine run_bytesToString _ _ _ _ (nameNs k) ?_
  refine (run_loadCells_list _ _ ((nameNs k).map (Value.int .u8)) ?_)
  intro j v hj
  have hlt : j < 32 := by
    have := (List.getElem?_eq_some_iff.1 hj).1
    simpa [nameNs] using this
  have e : ((⟨w.heap.size, 0, none⟩ : Addr).add j) = ⟨w.heap.size, j, none⟩ := by
    simp only [Addr.add]; split
    · rename_i h; subst h; rfl
    · simp
  rw [e, World.cell?_alloc_new, zeros_cell k j hlt, ← List.getElem?_map]; exact hj

set_option maxRecDepth 100000 in
set_option maxHeartbeats 400000 in
theorem name_any (k : Nat) (hk : k ≤ 255) (w : World) : Calls Tryd.prog 14 #[.int .i64 k] w fun e w' => e = .returned (.string (nameB k)) ∧ Ext w w' := by
  have hmk : ∀ w : World, (Instr.makeSlice 72 (.int .i64 32) (.int .i64 32)).run Tryd.prog w = .ok (.slice (some ⟨w.heap.size, 0, none⟩) 32 32) (w.alloc (.cells zeros32 5)) := fun _ => by kernel_rfl
  have hcv := name_conv k w
  have hm : (k : Int) % 256 = (k : Int) := by omega
  have hz0 : zeros32[0]? = some (.int .u8 0) := rfl
  go_enter Tryd.func14, Tryd.ntmps14
  go_wp2_with fail
  go_ret
  exact ⟨rfl, by (repeat' (first | exact Ext.refl _ | assumption | (apply Ext.after; assumption) | (refine Ext.alloc ?_ _) | (refine Ext.drew ?_) | (refine Ext.drewN ?_ _) | (refine Ext.setCell ?_ ?_ _) | (simp; done) | (simp; omega) | omega))⟩

end Go.Proofs.YtleogddijlabdaaDoor
