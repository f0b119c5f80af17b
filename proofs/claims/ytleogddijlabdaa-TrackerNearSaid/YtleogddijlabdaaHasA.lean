/- Has; the law of what is nearest, plain. -/
import Derived.Test.YtleogddijlabdaaActA
import Derived.Test.YtleogddijlabdaaRefB
set_option linter.unusedSimpArgs false
set_option linter.unusedVariables false
namespace Go.Proofs.Ytleogddijlabdaa
open Go.RowKit Go.Maps

def hasB (xs : List Int) (n : Int) : Bool := decide (n ∈ xs)

set_option maxHeartbeats 1000000 in
theorem Has_any (v : Value) (xs : List Int) (n : Int) (w : World) (hv : ISl w v xs) (hl : xs.length ≤ 1000) :
    Calls Try.prog 20 #[v, .int .i64 n] w fun e w' => e = .returned (.bool (hasB xs n)) ∧ w' = w := by
  obtain ⟨a, cap, rfl⟩ : ∃ a cap, v = .slice a xs.length cap := by
    rcases hv with ⟨rfl, rfl⟩ | ⟨b, off, cap, rfl, _⟩
    · exact ⟨_, _, rfl⟩
    · exact ⟨_, _, rfl⟩
  have HV := Lib.hid hv
  clear hv
  go_enter Try.func20, Try.ntmps20
  go_wp2_with fail
  go_loop [5] (fun iv => ∃ i : Nat, iv = .int .i64 i ∧ i ≤ xs.length ∧ Hid (∀ j, j < i → xs.getD j 0 ≠ n)) (fun iv => xs.length - (intOf iv).toNat)
  case atStart => exact ⟨0, rfl, by omega, fun j hj => by omega⟩
  case round =>
    obtain ⟨i, rfl, hi, hall⟩ := hrel
    by_cases hlt : i < xs.length
    · obtain ⟨b, off, cap', hv, hc⟩ := HV.out.resolve_left (fun h => by rw [h.2] at hlt; simp at hlt)
      cases hv
      have c := hc i hlt
      clear hc
      generalize hq : xs.getD i 0 = q at c
      have HQ := Lib.hid hq
      clear hq
      by_cases hqn : q = n
      · have hB : Hid (hasB xs n = true) := by
          unfold hasB
          rw [← hqn, ← HQ.out, List.getD_eq_getElem?_getD, List.getElem?_eq_getElem hlt]
          exact decide_eq_true (List.getElem_mem hlt)
        have he : (q == n) = true := by simp [hqn]
        have HQN := Lib.hid hqn
        clear hqn
        go_wp2_with fail
        go_ret
        exact ⟨by rw [hB.out]; rfl, rfl⟩
      · have he : (q == n) = false := by simp [hqn]
        have HQN := Lib.hid hqn
        clear hqn
        go_wp2_with fail
        go_round
        case rel => exact ⟨i + 1, by go_num, by omega, fun j hj => by
          by_cases e : j = i
          · subst e; rw [HQ.out]; exact HQN.out
          · exact hall.out j (by omega)⟩
        case measure => simp [intOf]; omega
    · obtain rfl : i = xs.length := by omega
      have hB : Hid (hasB xs n = false) := by
        unfold hasB
        refine decide_eq_false fun h => ?_
        obtain ⟨j, hj, e⟩ := List.getElem_of_mem h
        refine hall.out j hj ?_
        rw [List.getD_eq_getElem?_getD, List.getElem?_eq_getElem hj]; exact e
      go_wp2_with fail
      go_ret
      exact ⟨by rw [hB.out]; rfl, rfl⟩

theorem countL_up {T : List UInt8 → Nat → Option NoteV} (h : GoodT T) (k : List UInt8) (now : Int) : ∀ n, (countL (T k) now n).Pairwise (fun a b => a.node < b.node) ∧ ∀ a ∈ countL (T k) now n, a.node < (n : Int) := by
  intro n
  induction n with
  | zero => simp [countL]
  | succ n ih =>
    unfold countL
    have hn : ∀ a ∈ (if countsB now (T k n) = true then (T k n).toList else []), a.node = (n : Int) := by
      intro a ha
      cases hA : T k n with
      | none => rw [hA] at ha; simp [countsB] at ha
      | some b =>
        rw [hA] at ha
        have : a = b := by
          by_cases hb : countsB now (some b) = true
          · simpa [hb] using ha
          · simp [hb] at ha
        subst this
        exact (h k n a hA).2.1
    refine ⟨?_, fun a ha => ?_⟩
    · rw [List.pairwise_append]
      refine ⟨ih.1, ?_, fun a ha b hb => by have := ih.2 a ha; have := hn b hb; omega⟩
      split
      · cases T k n <;> simp
      · simp
    · rw [List.mem_append] at ha
      rcases ha with ha | ha
      · have := ih.2 a ha; omega
      · have := hn a ha; omega
theorem nodes_up {T : List UInt8 → Nat → Option NoteV} (h : GoodT T) (k : List UInt8) (now : Int) : (nodesL T k now).Pairwise (fun a b => a.node < b.node) := by
  unfold nodesL; split
  · exact (countL_up h k now 16).1
  · exact List.Pairwise.nil
theorem nodes_len (T : List UInt8 → Nat → Option NoteV) (k : List UInt8) (now : Int) : (nodesL T k now).length ≤ 16 := by
  unfold nodesL
  by_cases h : tickB now = true
  · rw [if_pos h]; exact countL_len _ _ _
  · rw [if_neg h]; exact Nat.zero_le _
theorem node_inj {l : List NoteV} (h : l.Pairwise (fun a b => a.node < b.node)) {i j : Nat} (hi : i < l.length) (hj : j < l.length) (e : (noteAt l i).node = (noteAt l j).node) : i = j := by
  rw [noteAt_eq hi, noteAt_eq hj] at e
  rw [List.pairwise_iff_getElem] at h
  rcases Nat.lt_trichotomy i j with g | g | g
  · have := h i j hi hj g; omega
  · exact g
  · have := h j i hj hi g; omega

theorem near_law {l : List NoteV} {x y : Int} {order : List Int} (h : l.Pairwise (fun a b => a.node < b.node)) (ho : OrderOf l x y order) (k : Nat) {i j : Nat} (hi : i < l.length) (hj : j < l.length)
    (h1 : hasB ((order.take k).map (nodeOf l)) (noteAt l i).node = true) (h2 : hasB ((order.take k).map (nodeOf l)) (noteAt l j).node = false) : ¬ dist x y (noteAt l j).x (noteAt l j).y < dist x y (noteAt l i).x (noteAt l i).y := by
  unfold hasB at h1 h2
  rw [decide_eq_true_eq, List.mem_map] at h1
  rw [decide_eq_false_iff_not, List.mem_map] at h2
  obtain ⟨a, ha, e⟩ := h1
  have hao := (ho.mem a).1 (List.mem_of_mem_take ha)
  have e1 : a = (i : Int) := by
    have := node_inj h (i := a.toNat) (j := i) (by omega) hi e
    omega
  have hjn : (j : Int) ∉ order.take k := fun g => h2 ⟨_, g, by simp [nodeOf]⟩
  have hjo : (j : Int) ∈ order := (ho.mem _).2 ⟨by omega, by omega⟩
  rw [← List.take_append_drop k order, List.mem_append] at hjo
  have hjd := hjo.resolve_left hjn
  have hs := ho.sorted
  rw [← List.take_append_drop k order, List.pairwise_append] at hs
  have := hs.2.2 a ha (j : Int) hjd
  rw [e1] at this
  simp only [Srt.LT, keyOf, nx, ny, Int.toNat_natCast] at this
  omega

end Go.Proofs.Ytleogddijlabdaa
