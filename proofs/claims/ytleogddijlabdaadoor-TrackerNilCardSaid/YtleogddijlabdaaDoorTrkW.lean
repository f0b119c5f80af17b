/- The statements' awake, of the tracker. -/
import Derived.Test.YtleogddijlabdaaDoorTrkL
import Derived.Test.YtleogddijlabdaaDoorTrkN
set_option linter.unusedSimpArgs false
set_option linter.unusedVariables false
namespace Go.Proofs.YtleogddijlabdaaDoor
open Go.RowKit Go.Maps

def nA : NoteV := ⟨nameB 1, 3, 0, 0, 9⟩
def nB : NoteV := ⟨nameB 1, 5, 0, 0, 4⟩
def tAB : List UInt8 → Nat → Option NoteV := annT (oneT nA) nB 0
theorem may_A : mayB nA 0 = true := by
  unfold mayB nA; simp only [nameB_size]; decide
theorem may_B : mayB nB 0 = true := by
  unfold mayB nB; simp only [nameB_size]; decide
theorem tAB_at : tAB (nameB 1).data.toList = fun i => if i = 5 then some nB else if i = 3 then some nA else none := by
  funext i
  have e5 : nB.node.toNat = 5 := rfl
  have e3 : nA.node.toNat = 3 := rfl
  have en : nB.name.data.toList = (nameB 1).data.toList := rfl
  have em : nA.name.data.toList = (nameB 1).data.toList := rfl
  unfold tAB annT oneT sweptA
  simp only [e5, e3, en, em, true_and]
  by_cases h5 : i = 5
  · simp [h5]
  · by_cases h3 : i = 3
    · have : ¬ nA.til < 0 := by decide
      simp [h3, this]
    · simp [h5, h3]
theorem tAB_other (k : List UInt8) (hk : k ≠ (nameB 1).data.toList) (i : Nat) : tAB k i = none := by
  have en : nB.name.data.toList = (nameB 1).data.toList := rfl
  have em : nA.name.data.toList = (nameB 1).data.toList := rfl
  unfold tAB annT oneT sweptA
  simp only [en, em, hk, false_and, if_false]
theorem nodesAB (now : Int) : nodesL tAB (nameB 1).data.toList now = if tickB now then (if now ≤ 9 then [nA] else []) ++ (if now ≤ 4 then [nB] else []) else [] := by
  unfold nodesL
  rw [tAB_at]
  have tA : nA.til = 9 := rfl
  have tB : nB.til = 4 := rfl
  by_cases h9 : now ≤ 9 <;> by_cases h4 : now ≤ 4 <;> simp [countL, countsB, tA, tB, h9, h4]
theorem nodesAB_other (k : List UInt8) (hk : k ≠ (nameB 1).data.toList) (now : Int) : nodesL tAB k now = [] := by
  unfold nodesL
  rw [countL_none (fun i _ => tAB_other k hk i)]; split <;> rfl

set_option maxRecDepth 100000 in
set_option maxHeartbeats 4000000 in
theorem awake31_any (w : World) : Calls Tryd.prog 5 #[] w fun e w' => e = .returned (.bool true) ∧ Ext w w' := by
  go_enter Tryd.func5, Tryd.ntmps5
  go_wp2_with fail
  refine (New_inv 2 (by omega) _).mono ?_
  rintro e w1 ⟨tb, rfl, ht⟩
  have HT := Lib.hid ht
  clear ht
  go_wp2_with fail
  refine (name_any 1 (by omega) _).mono ?_
  rintro e w2 ⟨rfl, hx2⟩
  have HT2 := Lib.hid (HT.out.ext hx2)
  clear HT hx2
  go_wp2_with fail
  refine (ann_inv (by omega) nA 0 may_A _ HT2.out [] rising_nil (fun k => by simp [nodes_none]) (Or.inr (by decide))).mono ?_
  rintro e w3 ⟨rfl, n3, hn3, ht3⟩
  rw [ann_none] at ht3
  have HT3 := Lib.hid ht3
  clear ht3 HT2
  go_wp2_with fail
  refine (name_any 1 (by omega) _).mono ?_
  rintro e w4 ⟨rfl, hx4⟩
  have HT4 := Lib.hid (HT3.out.ext hx4)
  clear HT3 hx4
  go_wp2_with fail
  refine (ann_inv (by omega) nB 0 may_B _ HT4.out [(nameB 1).data.toList] (rising_one _) (fun k => ?_) (Or.inr (by decide))).mono ?_
  · by_cases hk : k = (nameB 1).data.toList
    · subst hk
      have := nodes_one nA (by decide) 0
      rw [show nA.name = nameB 1 from rfl] at this
      rw [this]; simp [tickB, show nA.til = 9 from rfl]
    · rw [nodes_one_other nA k hk]; simp [hk]
  rintro e w5 ⟨rfl, n5, hn5, ht5⟩
  have HT5 : Hid (TInv w.heap.size w w5 tb n5 2 tAB) := Lib.hid ht5
  clear ht5 HT4
  go_wp2_with fail
  refine (name_any 1 (by omega) _).mono ?_
  rintro e w6 ⟨rfl, hx6⟩
  have HT6 := Lib.hid (HT5.out.ext hx6)
  clear HT5 hx6
  go_wp2_with fail
  refine (Nodes_inv (nameB 1) (by rw [nameB_size]; omega) 4 _ HT6.out).mono ?_
  rintro e w7 ⟨v7, rfl, hv7, _, ht7⟩
  have hl7 : nodesL tAB (nameB 1).data.toList 4 = [nA, nB] := by rw [nodesAB]; simp [tickB]
  rw [hl7] at hv7
  obtain ⟨na7, nc7, rfl⟩ := hv7.shape
  have HT7 := Lib.hid ht7
  clear ht7 HT6 hv7 hl7
  go_wp2_with fail
  refine (name_any 1 (by omega) _).mono ?_
  rintro e w8 ⟨rfl, hx8⟩
  have HT8 := Lib.hid (HT7.out.ext hx8)
  clear HT7 hx8
  go_wp2_with fail
  refine (Nodes_inv (nameB 1) (by rw [nameB_size]; omega) 5 _ HT8.out).mono ?_
  rintro e w9 ⟨v9, rfl, hv9, _, ht9⟩
  have hl9 : nodesL tAB (nameB 1).data.toList 5 = [nA] := by rw [nodesAB]; simp [tickB]
  rw [hl9] at hv9
  obtain ⟨na9, nc9, rfl⟩ := hv9.shape
  have HT9 := Lib.hid ht9
  clear ht9 HT8 hv9 hl9
  go_wp2_with fail
  refine (Len_inv (by omega) 9 _ HT9.out [(nameB 1).data.toList] (rising_one _) (fun k => ?_)).mono ?_
  · by_cases hk : k = (nameB 1).data.toList
    · subst hk
      rw [nodesAB]; simp [tickB]
    · rw [nodesAB_other k hk]; simp [hk]
  rintro e w10 ⟨rfl, _, ht10⟩
  have HT10 := Lib.hid ht10
  clear ht10 HT9
  go_wp2_with fail
  refine (Len_inv (by omega) 10 _ HT10.out [] rising_nil (fun k => ?_)).mono ?_
  · by_cases hk : k = (nameB 1).data.toList
    · subst hk
      rw [nodesAB]; simp
    · rw [nodesAB_other k hk]; simp
  rintro e w11 ⟨rfl, _, ht11⟩
  have hx := ht11.base
  clear ht11 HT10
  go_wp2
  go_ret
  exact ⟨rfl, hx⟩

end Go.Proofs.YtleogddijlabdaaDoor
