/- Tables since a world; tables that know one note. -/
import Derived.Test.YtleogddijlabdaaDoorTrkK
set_option linter.unusedSimpArgs false
set_option linter.unusedVariables false
namespace Go.Proofs.YtleogddijlabdaaDoor
open Go.RowKit Go.Maps

/-- A table that was made since world w0: the blocks below bs are as they were there. -/
def TInv (bs : Nat) (w0 w : World) (tb n : Nat) (room : Int) (T : List UInt8 → Nat → Option NoteV) : Prop :=
  bs ≤ w0.heap.size ∧ ∃ S, Tab S w tb n room T ∧ Below bs w0 w ∧ ∀ b, S b → bs ≤ b
theorem TInv.ext {bs : Nat} {w0 w w' : World} {tb n : Nat} {room : Int} {T : List UInt8 → Nat → Option NoteV} (h : TInv bs w0 w tb n room T) (k : Ext w w') : TInv bs w0 w' tb n room T := by
  obtain ⟨h0, S, h1, h2, h3⟩ := h
  exact ⟨h0, S, h1.ext k, h2.trans (Below.mono k (Nat.le_trans h0 h2.size)), h3⟩
theorem TInv.base {bs : Nat} {w0 w : World} {tb n : Nat} {room : Int} {T : List UInt8 → Nat → Option NoteV} (h : TInv bs w0 w tb n room T) : Below bs w0 w := by
  obtain ⟨h0, S, h1, h2, h3⟩ := h
  exact h2
theorem TInv.cell {bs : Nat} {w0 w : World} {tb n : Nat} {room : Int} {T : List UInt8 → Nat → Option NoteV} (h : TInv bs w0 w tb n room T) {p : Addr} {v : Value} (hp : p.block < bs) (k : w0.cell? p = some v) : w.cell? p = some v := by
  rw [World.cell?_of_block (w := w0) (h.base.block p.block hp)]; exact k

theorem New_inv (room : Int) (hr : 1 ≤ room ∧ room ≤ 64) (w : World) : Calls Tryd.prog 13 #[.int .i64 room] w fun e w' =>
    ∃ tb, e = .returned (.pointer (some ⟨tb, 0, none⟩)) ∧ TInv w.heap.size w w' tb 0 room (fun _ _ => none) := by
  refine (New_any room hr w).mono ?_
  rintro e w' ⟨S, tb, rfl, ht, hx, hS⟩
  exact ⟨tb, rfl, Nat.le_refl _, S, ht, hx, hS⟩

theorem ann_inv {bs : Nat} {w0 : World} {tb n : Nat} {room : Int} {T : List UInt8 → Nat → Option NoteV} (hn : n ≤ 1000) (a : NoteV) (now : Int) (hm : mayB a now = true) (w : World) (h : TInv bs w0 w tb n room T)
    (ns : List (List UInt8)) (hr : Rising ns) (hns : ∀ k, k ∈ ns ↔ nodesL T k now ≠ []) (hf : nodesL T a.name.data.toList now ≠ [] ∨ ns.length < room) :
    Calls Tryd.prog 8 #[.pointer (some ⟨tb, 0, none⟩), a.val, .int .i64 now] w fun e w' => e = .returned (.int .i64 0) ∧ ∃ n', n' ≤ n + 1 ∧ TInv bs w0 w' tb n' room (annT T a now) := by
  obtain ⟨h0, S, ⟨mb, F, D, h1⟩, h2, h3⟩ := h
  have key : ∀ e w', AnnOk S w w' tb n room T a now e → e = .returned (.int .i64 0) ∧ ∃ n', n' ≤ n + 1 ∧ TInv bs w0 w' tb n' room (annT T a now) := by
    rintro e w' ⟨rfl, S', n', g1, g2, g3, g4⟩
    exact ⟨rfl, n', g2, h0, S', g1, h2.trans ⟨g3.os, g3.tape, g3.output, g3.size, fun i hi => g3.block i (Nat.lt_of_lt_of_le hi (Nat.le_trans h0 h2.size)) (fun e => by have := h3 i e; omega)⟩,
      fun b hb => (g4 b hb).elim (h3 b) (fun g => Nat.le_trans (Nat.le_trans h0 h2.size) g)⟩
  by_cases hz : nodesL T a.name.data.toList now = []
  · have hl : (ns.length : Int) < room := hf.resolve_left (fun g => g hz)
    exact (ann_new hn a now hm w h1 ns hr hns hz hl).mono key
  · exact (ann_some hn a now hm w h1 ns hr hns hz).mono key

theorem ann_inv_no {bs : Nat} {w0 : World} {tb n : Nat} {room : Int} {T : List UInt8 → Nat → Option NoteV} (a : NoteV) (now : Int) (hm : mayB a now = false) (w : World) (h : TInv bs w0 w tb n room T) :
    Calls Tryd.prog 8 #[.pointer (some ⟨tb, 0, none⟩), a.val, .int .i64 now] w fun e w' => e = .returned (.int .i64 1) ∧ TInv bs w0 w' tb n room T := by
  refine (ann_no tb a now hm w).mono ?_
  rintro e w' ⟨rfl, hx⟩
  exact ⟨rfl, h.ext hx⟩

theorem Nodes_inv {bs : Nat} {w0 : World} {tb n : Nat} {room : Int} {T : List UInt8 → Nat → Option NoteV} (s : ByteArray) (hs : s.size ≤ 1000) (now : Int) (w : World) (h : TInv bs w0 w tb n room T) :
    Calls Tryd.prog 11 #[.pointer (some ⟨tb, 0, none⟩), .string s, .int .i64 now] w fun e w' => ∃ v, e = .returned v ∧ NSl w' v (nodesL T s.data.toList now) ∧ Ext w w' ∧ TInv bs w0 w' tb n room T := by
  have h' := h
  obtain ⟨h0, S, h1, h2, h3⟩ := h
  refine (Nodes_any s hs now w h1).mono ?_
  rintro e w' ⟨v, rfl, hv, hx⟩
  exact ⟨v, rfl, hv, hx, h'.ext hx⟩

theorem Len_inv {bs : Nat} {w0 : World} {tb n : Nat} {room : Int} {T : List UInt8 → Nat → Option NoteV} (hn : n ≤ 1000) (now : Int) (w : World) (h : TInv bs w0 w tb n room T) (ns : List (List UInt8)) (hr : Rising ns) (hns : ∀ k, k ∈ ns ↔ nodesL T k now ≠ []) :
    Calls Tryd.prog 12 #[.pointer (some ⟨tb, 0, none⟩), .int .i64 now] w fun e w' => e = .returned (.int .i64 ns.length) ∧ Ext w w' ∧ TInv bs w0 w' tb n room T := by
  have h' := h
  obtain ⟨h0, S, h1, h2, h3⟩ := h
  refine (Len_any hn now w h1).mono ?_
  rintro e w' ⟨l, rfl, hx, g1, g2⟩
  obtain rfl := rising_uniq hr g1 (fun k => (hns k).trans (g2 k).symm)
  exact ⟨rfl, hx, h'.ext hx⟩

theorem rising_nil : Rising [] := List.Pairwise.nil
theorem rising_one (k : List UInt8) : Rising [k] := List.pairwise_singleton _ _

/-- A table that knows one note. -/
def oneT (a : NoteV) : List UInt8 → Nat → Option NoteV := fun k i => if k = a.name.data.toList ∧ i = a.node.toNat then some a else none
theorem ann_none (a : NoteV) (now : Int) : annT (fun _ _ => none) a now = oneT a := rfl
theorem ann_one (a b : NoteV) (now : Int) (h1 : b.name = a.name) (h2 : b.node = a.node) : annT (oneT a) b now = oneT b := by
  funext k i
  unfold annT oneT sweptA
  rw [h1, h2]
  by_cases h : k = a.name.data.toList ∧ i = a.node.toNat
  · simp [h]
  · simp [h]

theorem nodes_none (k : List UInt8) (now : Int) : nodesL (fun _ _ => none) k now = [] := by
  unfold nodesL; rw [countL_none (fun _ _ => rfl)]; split <;> rfl

theorem count_one (a : NoteV) (now : Int) (m : Nat) : ∀ k, countL (fun i => if i = m then some a else none) now k = if m < k ∧ now ≤ a.til then [a] else [] := by
  intro k
  induction k with
  | zero => simp [countL]
  | succ k ih =>
    unfold countL
    rw [ih]
    by_cases hk : k = m
    · subst hk
      by_cases hn : now ≤ a.til <;> simp [countsB, hn]
    · simp only [if_neg hk, countsB]
      by_cases hn : now ≤ a.til
      · by_cases h : m < k
        · simp [hn, h, Nat.lt_succ_of_lt h]
        · have : ¬ m < k + 1 := by omega
          simp [hn, h, this]
      · simp [hn]

theorem nodes_one (a : NoteV) (hp : peerB a.node = true) (now : Int) : nodesL (oneT a) a.name.data.toList now = if tickB now ∧ now ≤ a.til then [a] else [] := by
  have hq : a.node.toNat < 16 := by simp [peerB] at hp; omega
  unfold nodesL
  have : oneT a a.name.data.toList = fun i => if i = a.node.toNat then some a else none := by funext i; simp [oneT]
  rw [this, count_one]
  cases tickB now <;> simp [hq]

theorem nodes_one_other (a : NoteV) (k : List UInt8) (hk : k ≠ a.name.data.toList) (now : Int) : nodesL (oneT a) k now = [] := by
  unfold nodesL
  have : oneT a k = fun _ => none := by funext i; simp [oneT, hk]
  rw [this, countL_none (fun _ _ => rfl)]; split <;> rfl

end Go.Proofs.YtleogddijlabdaaDoor
