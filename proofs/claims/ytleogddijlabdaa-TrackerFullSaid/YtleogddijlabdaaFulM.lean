/- Tables that know names of numbers. -/
import Derived.Test.YtleogddijlabdaaTrkQ
set_option linter.unusedSimpArgs false
set_option linter.unusedVariables false
namespace Go.Proofs.Ytleogddijlabdaa
open Go.RowKit Go.Maps

def nameL (j : Nat) : List UInt8 := (nameB j).data.toList
theorem nameL_eq (j : Nat) : nameL j = UInt8.ofNat j :: List.replicate 31 0 := nameB_list j
def idxN (k : List UInt8) : Option Nat := (List.range 101).find? (fun j => decide (nameL j = k))
theorem nameL_inj {j k : Nat} (hj : j ≤ 255) (hk : k ≤ 255) (h : nameL j = nameL k) : j = k := nameB_inj hj hk h
theorem idx_name {j : Nat} (hj : j ≤ 100) : idxN (nameL j) = some j := by
  unfold idxN
  rw [List.find?_eq_some_iff_append]
  refine ⟨by simp, List.range j, List.range' (j + 1) (100 - j), ?_, fun a ha => ?_⟩
  · rw [List.range_eq_range', List.range_eq_range']
    rw [show (101 : Nat) = j + (1 + (100 - j)) by omega, ← List.range'_append_1, ← List.range'_append_1]
    simp
  · rw [List.mem_range] at ha
    simp only [Bool.not_eq_true', decide_eq_false_iff_not]
    exact fun e => by have := nameL_inj (by omega) (by omega) e; omega
theorem idx_some {k : List UInt8} {j : Nat} (h : idxN k = some j) : k = nameL j ∧ j ≤ 100 := by
  unfold idxN at h
  have h1 := List.find?_some h
  have h2 := List.mem_of_find?_eq_some h
  rw [List.mem_range] at h2
  simp only [decide_eq_true_eq] at h1
  exact ⟨h1.symm, by omega⟩

def tabG (G : Nat → Nat → Option NoteV) : List UInt8 → Nat → Option NoteV := fun k m => (idxN k).bind fun j => G j m
def nodesG (G : Nat → Nat → Option NoteV) (j : Nat) (now : Int) : List NoteV := if tickB now then countL (G j) now 16 else []
theorem nodes_tabG (G : Nat → Nat → Option NoteV) {j : Nat} (hj : j ≤ 100) (now : Int) : nodesL (tabG G) (nameL j) now = nodesG G j now := by
  unfold nodesL nodesG
  have : tabG G (nameL j) = G j := by funext m; simp [tabG, idx_name hj]
  rw [this]
theorem nodes_tabG_no (G : Nat → Nat → Option NoteV) {k : List UInt8} (hk : idxN k = none) (now : Int) : nodesL (tabG G) k now = [] := by
  unfold nodesL
  have : tabG G k = fun _ => none := by funext m; simp [tabG, hk]
  rw [this, countL_none (fun _ _ => rfl)]; split <;> rfl

def sweptO (now : Int) (q : Option NoteV) : Option NoteV := if (match q with | some a => decide (a.til < now) | none => false) then none else q
def annG (G : Nat → Nat → Option NoteV) (j : Nat) (a : NoteV) (now : Int) : Nat → Nat → Option NoteV := fun j' m => if j' = j ∧ m = a.node.toNat then some a else sweptA (G j') now m

theorem ann_tabG (G : Nat → Nat → Option NoteV) {j : Nat} (hj : j ≤ 100) (a : NoteV) (ha : a.name = nameB j) (now : Int) : annT (tabG G) a now = tabG (annG G j a now) := by
  funext k m
  unfold annT tabG annG
  rw [ha, show (nameB j).data.toList = nameL j from rfl]
  cases hk : idxN k with
  | none =>
    have : k ≠ nameL j := fun e => by rw [e, idx_name hj] at hk; cases hk
    simp [this, sweptA]
  | some j' =>
    obtain ⟨ek, hj'⟩ := idx_some hk
    rw [ek]
    have e : nameL j' = nameL j ↔ j' = j := ⟨fun e => nameL_inj (by omega) (by omega) e, fun e => by rw [e]⟩
    simp only [e, Option.bind_some]

theorem countL_ne {A : Nat → Option NoteV} {now : Int} (n : Nat) : countL A now n ≠ [] ↔ ∃ m, m < n ∧ countsB now (A m) = true := by
  induction n with
  | zero => simp [countL]
  | succ n ih =>
    unfold countL
    have h1 : (if countsB now (A n) = true then (A n).toList else []) ≠ [] ↔ countsB now (A n) = true := by
      cases hA : A n with
      | none => simp [countsB]
      | some a => by_cases h : countsB now (some a) = true <;> simp [h]
    rw [ne_eq, List.append_eq_nil_iff, Classical.not_and_iff_not_or_not, ← ne_eq, ← ne_eq, ih, h1]
    constructor
    · rintro (⟨m, h, h'⟩ | h)
      · exact ⟨m, by omega, h'⟩
      · exact ⟨n, by omega, h⟩
    · rintro ⟨m, h, h'⟩
      by_cases e : m = n
      · subst e; exact Or.inr h'
      · exact Or.inl ⟨m, by omega, h'⟩

theorem range_rising (p : Nat → Bool) (n : Nat) (hn : n ≤ 256) : Rising (((List.range n).filter p).map nameL) := by
  unfold Rising
  rw [List.pairwise_map]
  refine List.Pairwise.filter _ ?_
  refine List.pairwise_lt_range.imp_of_mem ?_
  intro a b ha hb hlt
  rw [List.mem_range] at ha hb
  have hl : UInt8.ofNat a < UInt8.ofNat b := by
    rw [UInt8.lt_iff_toNat_lt]; simp; omega
  rw [nameL_eq, nameL_eq]
  refine ⟨List.le_of_lt (List.Lex.rel hl), fun e => ?_⟩
  simp at e
  have := congrArg UInt8.toNat e
  simp at this; omega

/-- The names that count. -/
def namesG (G : Nat → Nat → Option NoteV) (now : Int) : List (List UInt8) := ((List.range 101).filter fun j => !(nodesG G j now).isEmpty).map nameL
theorem namesG_rising (G : Nat → Nat → Option NoteV) (now : Int) : Rising (namesG G now) := range_rising _ _ (by omega)
theorem namesG_mem (G : Nat → Nat → Option NoteV) (now : Int) (k : List UInt8) : k ∈ namesG G now ↔ nodesL (tabG G) k now ≠ [] := by
  unfold namesG
  rw [List.mem_map]
  constructor
  · rintro ⟨j, hj, rfl⟩
    rw [List.mem_filter, List.mem_range] at hj
    rw [nodes_tabG G (by omega)]
    simpa using hj.2
  · intro h
    cases hk : idxN k with
    | none => exact absurd (nodes_tabG_no G hk now) h
    | some j =>
      obtain ⟨ek, hj⟩ := idx_some hk
      rw [ek, nodes_tabG G hj] at h
      exact ⟨j, by rw [List.mem_filter, List.mem_range]; exact ⟨by omega, by simpa using h⟩, ek.symm⟩

theorem namesG_len {G : Nat → Nat → Option NoteV} {now : Int} {p : Nat → Bool} (h : ∀ j, j ≤ 100 → (nodesG G j now ≠ [] ↔ p j = true)) : (namesG G now).length = ((List.range 101).filter p).length := by
  unfold namesG
  rw [List.length_map]
  congr 1
  refine List.filter_congr fun j hj => ?_
  rw [List.mem_range] at hj
  have := h j (by omega)
  cases hp : p j <;> simp_all

/-- The notes of the law. -/
def fnN (j : Nat) : NoteV := ⟨nameB j, 1, 0, 0, 10 + j⟩
theorem fnN_til (j : Nat) : (fnN j).til = 10 + (j : Int) := rfl
def fnB : NoteV := ⟨nameB 0, 2, 0, 0, 10⟩
def fnC : NoteV := ⟨nameB 100, 1, 0, 0, 90⟩
def gA (i : Nat) : Nat → Nat → Option NoteV := fun j m => if j < i ∧ m = 1 then some (fnN j) else none
def gB (r : Nat) : Nat → Nat → Option NoteV := annG (gA r) 0 fnB 5
def gC (r : Nat) : Nat → Nat → Option NoteV := annG (gB r) 100 fnC 11

theorem gA_zero : tabG (gA 0) = fun _ _ => none := by
  funext k m; unfold tabG gA; cases idxN k <;> simp
theorem gA_succ {i : Nat} (hi : i ≤ 100) : annT (tabG (gA i)) (fnN i) 0 = tabG (gA (i + 1)) := by
  rw [ann_tabG _ hi (fnN i) rfl]
  congr 1
  funext j m
  unfold annG gA sweptA
  by_cases h : j = i ∧ m = 1
  · obtain ⟨rfl, rfl⟩ := h; simp [fnN]
  · by_cases h2 : j < i ∧ m = 1
    · obtain ⟨h3, rfl⟩ := h2
      have : ¬ (j = i) := by omega
      have h5 : ¬ ((10 : Int) + j < 0) := by omega
      simp [this, h3, fnN, Nat.lt_succ_of_lt h3, h5]
    · have h4 : ¬ (j < i + 1 ∧ m = 1) := by
        rintro ⟨h5, h6⟩; exact h2 ⟨by
          have : j ≠ i := fun e => h ⟨e, h6⟩
          omega, h6⟩
      rw [if_neg h4]
      simp [h2, fnN]; omega

theorem nodesG_ne {G : Nat → Nat → Option NoteV} {j : Nat} {now : Int} (ht : tickB now = true) : nodesG G j now ≠ [] ↔ ∃ m, m < 16 ∧ countsB now (G j m) = true := by
  unfold nodesG; rw [if_pos ht]; exact countL_ne 16

theorem gA_ne (i j : Nat) (now : Int) (ht : tickB now = true) : nodesG (gA i) j now ≠ [] ↔ j < i ∧ now ≤ 10 + (j : Int) := by
  rw [nodesG_ne ht]
  constructor
  · rintro ⟨m, _, h⟩
    unfold gA at h
    by_cases h1 : j < i ∧ m = 1
    · rw [if_pos h1] at h; simp only [countsB, fnN_til] at h; exact ⟨h1.1, of_decide_eq_true h⟩
    · rw [if_neg h1] at h; simp [countsB] at h
  · rintro ⟨h1, h2⟩
    exact ⟨1, by omega, by simp [gA, h1, countsB, fnN, h2]⟩

theorem gB_ne (r j : Nat) : nodesG (gB r) j 11 ≠ [] ↔ 1 ≤ j ∧ j < r := by
  rw [nodesG_ne (by decide)]
  constructor
  · rintro ⟨m, _, h⟩
    unfold gB annG at h
    by_cases h0 : j = 0 ∧ m = fnB.node.toNat
    · rw [if_pos h0] at h; simp [countsB, fnB] at h
    · rw [if_neg h0] at h
      unfold sweptA gA at h
      by_cases h1 : j < r ∧ m = 1
      · simp only [h1, and_self, if_true] at h
        by_cases h2 : (fnN j).til < 5
        · simp [h2, countsB] at h
        · simp only [h2, if_false] at h; simp only [countsB, fnN_til] at h; have := of_decide_eq_true h; exact ⟨by omega, h1.1⟩
      · simp [h1, countsB] at h
  · rintro ⟨h1, h2⟩
    refine ⟨1, by omega, ?_⟩
    have h3 : ¬ (j = 0) := by omega
    have h4 : ¬ ((10 : Int) + j < 5) := by omega
    have h5 : (11 : Int) ≤ 10 + j := by omega
    simp [gB, annG, sweptA, gA, h2, h3, countsB, fnN, h4, h5]

theorem gC_ne (r j : Nat) (hr : r ≤ 64) : nodesG (gC r) j 11 ≠ [] ↔ j = 100 ∨ 1 ≤ j ∧ j < r := by
  rw [nodesG_ne (by decide)]
  constructor
  · rintro ⟨m, hm, h⟩
    unfold gC annG at h
    by_cases h0 : j = 100 ∧ m = fnC.node.toNat
    · exact Or.inl h0.1
    · rw [if_neg h0] at h
      refine Or.inr ((gB_ne r j).1 ((nodesG_ne (by decide)).2 ⟨m, hm, ?_⟩))
      unfold sweptA at h
      cases hq : gB r j m with
      | none => rw [hq] at h; simp [countsB] at h
      | some a =>
        rw [hq] at h
        by_cases h2 : a.til < 11
        · simp [h2, countsB] at h
        · simp [h2, countsB] at h; simp [countsB]; omega
  · rintro (rfl | h)
    · exact ⟨1, by omega, by simp [gC, annG, fnC, countsB]⟩
    · obtain ⟨m, hm, h'⟩ := (nodesG_ne (by decide)).1 ((gB_ne r j).2 h)
      refine ⟨m, hm, ?_⟩
      have h3 : ¬ (j = 100) := by omega
      unfold gC annG sweptA
      simp only [h3, false_and, if_false]
      cases hq : gB r j m with
      | none => rw [hq] at h'; simp [countsB] at h'
      | some a =>
        rw [hq] at h'
        simp [countsB] at h'
        have h2 : ¬ (a.til < 11) := by omega
        simp [h2, countsB, h']

theorem gC_zero (r : Nat) : nodesG (gC r) 0 5 = [] := by
  apply Classical.byContradiction
  intro h
  obtain ⟨m, hm, h'⟩ := (nodesG_ne (by decide)).1 h
  unfold gC annG sweptA gB annG sweptA gA at h'
  by_cases h0 : m = 2
  · subst h0; simp [fnB, countsB] at h'
  · by_cases h1 : 0 < r ∧ m = 1
    · simp [h1, fnB, fnN, countsB] at h'
    · simp [h0, h1, fnB, countsB] at h'

theorem lenA : ∀ i : Fin 65, ((List.range 101).filter fun j => decide (j < i.val)).length = i.val := by decide +kernel
theorem lenB : ∀ i : Fin 65, ((List.range 101).filter fun j => decide (1 ≤ j ∧ j < i.val)).length = i.val - 1 := by decide +kernel
theorem lenC : ∀ i : Fin 65, ((List.range 101).filter fun j => decide (j = 100 ∨ 1 ≤ j ∧ j < i.val)).length = 1 + (i.val - 1) := by decide +kernel

theorem names_A (i : Nat) (hi : i ≤ 64) (now : Int) (h0 : 0 ≤ now) (h1 : now ≤ 10) : (namesG (gA i) now).length = i := by
  rw [namesG_len (p := fun j => decide (j < i)) (fun j _ => by rw [gA_ne _ _ _ (by simp [tickB]; omega)]; simp; omega)]
  exact lenA ⟨i, by omega⟩
theorem names_B (r : Nat) (hr : r ≤ 64) : (namesG (gB r) 11).length = r - 1 := by
  rw [namesG_len (p := fun j => decide (1 ≤ j ∧ j < r)) (fun j _ => by rw [gB_ne]; simp)]
  exact lenB ⟨r, by omega⟩
theorem names_C (r : Nat) (hr : r ≤ 64) : (namesG (gC r) 11).length = 1 + (r - 1) := by
  rw [namesG_len (p := fun j => decide (j = 100 ∨ 1 ≤ j ∧ j < r)) (fun j _ => by rw [gC_ne _ _ hr]; simp)]
  exact lenC ⟨r, by omega⟩

theorem may_fnN (j : Nat) (hj : j ≤ 64) : mayB (fnN j) 0 = true := by
  have h1 : (nameB j).size = 32 := nameB_size j
  have h2 : chk 0 0 = true := by decide
  have h3 : (0 : Int) ≤ 10 + (j : Int) := by omega
  have h4 : (10 : Int) + j ≤ 1099511627776 := by omega
  simp [mayB, fnN, tickB, peerB, h1, h2, h3, h4]
theorem may_fnB : mayB fnB 5 = true := by
  have h1 : (nameB 0).size = 32 := nameB_size 0
  have h2 : chk 0 0 = true := by decide
  simp [mayB, fnB, tickB, peerB, h1, h2]
theorem may_fnC5 : mayB fnC 5 = true := by
  have h1 : (nameB 100).size = 32 := nameB_size 100
  have h2 : chk 0 0 = true := by decide
  simp [mayB, fnC, tickB, peerB, h1, h2]
theorem may_fnC : mayB fnC 11 = true := by
  have h1 : (nameB 100).size = 32 := nameB_size 100
  have h2 : chk 0 0 = true := by decide
  simp [mayB, fnC, tickB, peerB, h1, h2]

end Go.Proofs.Ytleogddijlabdaa
