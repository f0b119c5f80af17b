/- Acts, what is asked, and the law's guard. -/
import Derived.Test.YtleogddijlabdaaFndA
set_option linter.unusedSimpArgs false
set_option linter.unusedVariables false
namespace Go.Proofs.Ytleogddijlabdaa
open Go.RowKit Go.Maps Go.Sort

structure ActV where
  kind : Int
  now : Int
  note : NoteV
def ActV.list (a : ActV) : List Value := [.int .i64 a.kind, .int .i64 a.now, .string a.note.name, .int .i64 a.note.node, .int .i64 a.note.x, .int .i64 a.note.y, .int .i64 a.note.til]
structure AskV where
  name : ByteArray
  title : ByteArray
  x : Int
  y : Int
  k : Int
  now : Int
def AskV.cells (a : AskV) : Array Value := #[.string a.name, .string a.title, .int .i64 a.x, .int .i64 a.y, .int .i64 a.k, .int .i64 a.now]
def AskV.val (a : AskV) : Value := .agg #[.string a.name, .string a.title, .int .i64 a.x, .int .i64 a.y, .int .i64 a.k, .int .i64 a.now]

def actAt (l : List ActV) (i : Nat) : ActV := (l[i]?).getD ⟨0, 0, ⟨ByteArray.empty, 0, 0, 0, 0⟩⟩
theorem actAt_eq {l : List ActV} {i : Nat} (h : i < l.length) : actAt l i = l[i] := by simp [actAt, List.getElem?_eq_getElem h]

/-- A slice of acts. -/
def ASl (w : World) (v : Value) (l : List ActV) : Prop :=
  (l = [] ∧ ∃ a cap, v = .slice a 0 cap) ∨ ∃ b off cap, v = .slice (some ⟨b, off, none⟩) l.length cap ∧ ∀ i, i < l.length → ∀ (j : Nat) u, (actAt l i).list[j]? = some u → w.cell? ⟨b, off + i * 7 + j, none⟩ = some u
theorem ASl.ext {w w' : World} {v : Value} {l : List ActV} (h : ASl w v l) (k : Ext w w') : ASl w' v l := by
  rcases h with h | ⟨b, off, cap, hv, hc⟩
  · exact Or.inl h
  · exact Or.inr ⟨b, off, cap, hv, fun i hi j u hu => k.cellAt (hc i hi j u hu)⟩
theorem ASl.shape {w : World} {v : Value} {l : List ActV} (h : ASl w v l) : ∃ a cap, v = .slice a l.length cap := by
  rcases h with ⟨rfl, a, cap, rfl⟩ | ⟨b, off, cap, rfl, _⟩
  · exact ⟨_, _, rfl⟩
  · exact ⟨_, _, rfl⟩
/-- The cells of an act. -/
theorem ASl.cells {w : World} {a : Option Addr} {n cap : Nat} {l : List ActV} (h : ASl w (.slice a n cap) l) {i : Nat} (hi : i < l.length) :
    ∃ b off, a = some ⟨b, off, none⟩ ∧ w.cell? ⟨b, off + i * 7, none⟩ = some (.int .i64 (actAt l i).kind) ∧ w.cell? ⟨b, off + i * 7 + 1, none⟩ = some (.int .i64 (actAt l i).now) ∧ w.cell? ⟨b, off + i * 7 + 2, none⟩ = some (.string (actAt l i).note.name) ∧
      w.cell? ⟨b, off + i * 7 + 3, none⟩ = some (.int .i64 (actAt l i).note.node) ∧ w.cell? ⟨b, off + i * 7 + 4, none⟩ = some (.int .i64 (actAt l i).note.x) ∧ w.cell? ⟨b, off + i * 7 + 5, none⟩ = some (.int .i64 (actAt l i).note.y) ∧ w.cell? ⟨b, off + i * 7 + 6, none⟩ = some (.int .i64 (actAt l i).note.til) := by
  rcases h with ⟨rfl, _⟩ | ⟨b, off, cap', hv, hc⟩
  · simp at hi
  · cases hv
    exact ⟨b, off, rfl, hc i hi 0 _ rfl, hc i hi 1 _ rfl, hc i hi 2 _ rfl, hc i hi 3 _ rfl, hc i hi 4 _ rfl, hc i hi 5 _ rfl, hc i hi 6 _ rfl⟩

def fewB (l : List ActV) (x : AskV) : Bool := decide (l.length ≤ 60) && (l.all fun a => decide (a.note.name.size ≤ 100)) && decide (x.name.size ≤ 100) && decide (x.title.size ≤ 100)
theorem fewB_long {l : List ActV} {x : AskV} (h : 60 < l.length) : fewB l x = false := by
  have : ¬ l.length ≤ 60 := by omega
  simp [fewB, this]
theorem fewB_act {l : List ActV} {x : AskV} {i : Nat} (hi : i < l.length) (h : 100 < (actAt l i).note.name.size) : fewB l x = false := by
  rw [actAt_eq hi] at h
  have : (l.all fun a => decide (a.note.name.size ≤ 100)) = false := by
    rw [List.all_eq_false]
    exact ⟨l[i], List.getElem_mem hi, by simp; omega⟩
  simp [fewB, this]
theorem fewB_end {l : List ActV} {x : AskV} (h1 : l.length ≤ 60) (h2 : ∀ j, j < l.length → (actAt l j).note.name.size ≤ 100) : fewB l x = (decide (x.name.size ≤ 100) && decide (x.title.size ≤ 100)) := by
  have : (l.all fun a => decide (a.note.name.size ≤ 100)) = true := by
    rw [List.all_eq_true]
    intro a ha
    obtain ⟨i, hi, rfl⟩ := List.getElem_of_mem ha
    have := h2 i hi
    rw [actAt_eq hi] at this
    simpa using this
  simp [fewB, this, h1]
theorem fewB_true {l : List ActV} {x : AskV} (h : fewB l x = true) : l.length ≤ 60 ∧ (∀ j, j < l.length → (actAt l j).note.name.size ≤ 100) ∧ x.name.size ≤ 100 ∧ x.title.size ≤ 100 := by
  simp only [fewB, Bool.and_eq_true, decide_eq_true_eq, List.all_eq_true] at h
  obtain ⟨⟨⟨h1, h2⟩, h3⟩, h4⟩ := h
  exact ⟨h1, fun j hj => by rw [actAt_eq hj]; exact h2 _ (List.getElem_mem hj), h3, h4⟩

set_option maxHeartbeats 2000000 in
theorem few_any (v : Value) (l : List ActV) (x : AskV) (w : World) (hv : ASl w v l) (hl : l.length ≤ 9223372036854775807) :
    Calls Try.prog 18 #[v, x.val] w fun e w' => e = .returned (.bool (fewB l x)) ∧ Ext w w' := by
  obtain ⟨a, cap, rfl⟩ := hv.shape
  have HV := Lib.hid hv
  clear hv
  obtain ⟨xn, xt, xx, xy, xk, xw⟩ := x
  unfold AskV.val
  go_enter Try.func18, Try.ntmps18
  go_wp2_with fail
  go_loop [5] (fun iv => ∃ i : Nat, iv = .int .i64 i ∧ i ≤ l.length ∧ i ≤ 60 ∧ Hid (∀ j, j < i → (actAt l j).note.name.size ≤ 100)) (fun iv => l.length - (intOf iv).toNat)
  case atStart => exact ⟨0, rfl, by omega, by omega, fun j hj => by omega⟩
  case round =>
    obtain ⟨i, rfl, hi, hi60, hall⟩ := hrel
    by_cases hlt : i < l.length
    · by_cases h60 : i < 60
      · obtain ⟨b, off, rfl, c0, c1, c2, c3, c4, c5, c6⟩ := ASl.cells HV.out hlt
        have hx : Ext w (w.alloc (.cells #[.string xn, .string xt, .int .i64 xx, .int .i64 xy, .int .i64 xk, .int .i64 xw] 50)) := Ext.alloc (Ext.refl _) _
        have d2 := hx.cellAt c2
        clear c0 c1 c2 c3 c4 c5 c6 hx
        by_cases hs : (actAt l i).note.name.size ≤ 100
        · have hs' : ¬ (100 : Int) < ((actAt l i).note.name.size : Int) := by omega
          have HS := Lib.hid hs
          clear hs
          go_wp2_with fail
          go_round
          case rel => exact ⟨i + 1, by go_num, by omega, by omega, fun j hj => by
            by_cases e : j = i
            · subst e; exact HS.out
            · exact hall.out j (by omega)⟩
          case measure => simp [intOf]; omega
        · have hs' : (100 : Int) < ((actAt l i).note.name.size : Int) := by omega
          have HB := Lib.hid (fewB_act (x := ⟨xn, xt, xx, xy, xk, xw⟩) hlt (by omega))
          clear hs
          go_wp2_with fail
          go_ret
          exact ⟨by rw [HB.out]; rfl, by (repeat' (first | exact Ext.refl _ | assumption | (apply Ext.after; assumption) | (refine Ext.alloc ?_ _) | (refine Ext.drew ?_) | (refine Ext.drewN ?_ _) | (refine Ext.setCell ?_ ?_ _) | (simp; done) | (simp; omega) | omega))⟩
      · have HB := Lib.hid (fewB_long (l := l) (x := ⟨xn, xt, xx, xy, xk, xw⟩) (by omega))
        go_wp2_with fail
        go_ret
        exact ⟨by rw [HB.out]; rfl, by (repeat' (first | exact Ext.refl _ | assumption | (apply Ext.after; assumption) | (refine Ext.alloc ?_ _) | (refine Ext.drew ?_) | (refine Ext.drewN ?_ _) | (refine Ext.setCell ?_ ?_ _) | (simp; done) | (simp; omega) | omega))⟩
    · obtain rfl : i = l.length := by omega
      have HB := Lib.hid (fewB_end (l := l) (x := ⟨xn, xt, xx, xy, xk, xw⟩) hi60 hall.out)
      by_cases h1 : xn.size ≤ 100
      · have g1 : decide ((xn.size : Int) ≤ 100) = true := by simp; omega
        by_cases h2 : xt.size ≤ 100
        all_goals
          go_wp2_with fail
          go_ret
          exact ⟨by rw [HB.out]; simp [h1, h2] <;> omega, by (repeat' (first | exact Ext.refl _ | assumption | (apply Ext.after; assumption) | (refine Ext.alloc ?_ _) | (refine Ext.drew ?_) | (refine Ext.drewN ?_ _) | (refine Ext.setCell ?_ ?_ _) | (simp; done) | (simp; omega) | omega))⟩
      · have g1 : decide ((xn.size : Int) ≤ 100) = false := by simp; omega
        go_wp2_with fail
        go_ret
        exact ⟨by rw [HB.out]; simp [h1], by (repeat' (first | exact Ext.refl _ | assumption | (apply Ext.after; assumption) | (refine Ext.alloc ?_ _) | (refine Ext.drew ?_) | (refine Ext.drewN ?_ _) | (refine Ext.setCell ?_ ?_ _) | (simp; done) | (simp; omega) | omega))⟩

/-! Announcements, whatever becomes of them. -/
theorem TInv.names {bs : Nat} {w0 w : World} {tb n : Nat} {room : Int} {T : List UInt8 → Nat → Option NoteV} (h : TInv bs w0 w tb n room T) (now : Int) : ∃ ns, Rising ns ∧ ∀ k, k ∈ ns ↔ nodesL T k now ≠ [] := by
  obtain ⟨h0, S, ⟨mb, F, D, h1⟩, h2, h3⟩ := h
  obtain ⟨hnd, hmem, _⟩ := h1.map.keys
  refine ⟨((strKeys D).mergeSort leB).filter (fun k => !(nodesL T k now).isEmpty), (rising_sort hnd).sublist List.filter_sublist, fun k => ?_⟩
  rw [List.mem_filter, (List.mergeSort_perm _ _).mem_iff, hmem]
  constructor
  · rintro ⟨_, h⟩; simpa using h
  · intro h
    refine ⟨fun e => h ?_, by simpa using h⟩
    unfold nodesL; rw [countL_none (h1.no _ e)]; split <;> rfl

def AnnR (room : Int) (T : List UInt8 → Nat → Option NoteV) (a : NoteV) (now e : Int) (T' : List UInt8 → Nat → Option NoteV) : Prop :=
  (mayB a now = false ∧ e = 1 ∧ T' = T) ∨ ∃ ns, Rising ns ∧ (∀ k, k ∈ ns ↔ nodesL T k now ≠ []) ∧ mayB a now = true ∧
    ((nodesL T a.name.data.toList now = [] ∧ room ≤ ns.length ∧ e = 6 ∧ T' = T) ∨ ((nodesL T a.name.data.toList now ≠ [] ∨ ns.length < room) ∧ e = 0 ∧ T' = annT T a now))

theorem ann_all {bs : Nat} {w0 : World} {tb n : Nat} {room : Int} {T : List UInt8 → Nat → Option NoteV} (hn : n ≤ 1000) (a : NoteV) (now : Int) (w : World) (h : TInv bs w0 w tb n room T) :
    Calls Try.prog 14 #[.pointer (some ⟨tb, 0, none⟩), a.val, .int .i64 now] w fun e w' => ∃ c T' n', e = .returned (.int .i64 c) ∧ AnnR room T a now c T' ∧ n' ≤ n + 1 ∧ TInv bs w0 w' tb n' room T' := by
  cases hm : mayB a now with
  | false =>
    refine (ann_inv_no a now hm w h).mono ?_
    rintro e w' ⟨rfl, ht⟩
    exact ⟨_, T, n, rfl, Or.inl ⟨hm, rfl, rfl⟩, by omega, ht⟩
  | true =>
    obtain ⟨ns, hr, hns⟩ := h.names now
    by_cases hf : nodesL T a.name.data.toList now ≠ [] ∨ ns.length < room
    · refine (ann_inv hn a now hm w h ns hr hns hf).mono ?_
      rintro e w' ⟨rfl, n', hn', ht⟩
      exact ⟨_, _, n', rfl, Or.inr ⟨ns, hr, hns, hm, Or.inr ⟨hf, rfl, rfl⟩⟩, hn', ht⟩
    · have h1 : nodesL T a.name.data.toList now = [] := Classical.byContradiction fun g => hf (Or.inl g)
      have h2 : room ≤ ns.length := by have : ¬ (ns.length : Int) < room := fun g => hf (Or.inr g); omega
      obtain ⟨h0, S, ⟨mb, F, D, g1⟩, g2, g3⟩ := id h
      refine (ann_full hn a now hm w g1 ns hr hns h1 h2).mono ?_
      rintro e w' ⟨rfl, hx⟩
      exact ⟨_, T, n, rfl, Or.inr ⟨ns, hr, hns, hm, Or.inl ⟨h1, h2, rfl, rfl⟩⟩, by omega, h.ext hx⟩

/-- What a table knows is of its name and node, and may be. -/
def GoodT (T : List UInt8 → Nat → Option NoteV) : Prop := ∀ k m a, T k m = some a → a.name.data.toList = k ∧ a.node = (m : Int) ∧ 1 ≤ m ∧ m ≤ 15 ∧ chk a.x a.y = true ∧ a.name.size = 32 ∧ 0 ≤ a.til ∧ a.til ≤ 1099511627776
theorem good_none : GoodT (fun _ _ => none) := fun _ _ _ h => by cases h
theorem good_ann {T : List UInt8 → Nat → Option NoteV} (h : GoodT T) (a : NoteV) (now : Int) (hm : mayB a now = true) : GoodT (annT T a now) := by
  intro k m b hb
  unfold annT at hb
  by_cases e : k = a.name.data.toList ∧ m = a.node.toNat
  · rw [if_pos e] at hb
    cases hb
    simp only [mayB, tickB, peerB, Bool.and_eq_true, decide_eq_true_eq] at hm
    obtain ⟨⟨⟨⟨⟨h1, h2⟩, h3⟩, h4⟩, h5⟩, h6⟩ := hm
    exact ⟨e.1.symm, by omega, by omega, by omega, h4, h2, by omega, h6⟩
  · rw [if_neg e] at hb
    unfold sweptA at hb
    cases hT : T k m with
    | none => rw [hT] at hb; cases hb
    | some c =>
      rw [hT] at hb
      by_cases hc : c.til < now
      · simp [hc] at hb
      · simp [hc] at hb; subst hb; exact h k m c hT
theorem good_annR {room : Int} {T T' : List UInt8 → Nat → Option NoteV} {a : NoteV} {now e : Int} (h : GoodT T) (k : AnnR room T a now e T') : GoodT T' := by
  rcases k with ⟨_, _, rfl⟩ | ⟨ns, _, _, hm, ⟨_, _, _, rfl⟩ | ⟨_, _, rfl⟩⟩
  · exact h
  · exact h
  · exact good_ann h a now hm

theorem mem_countL {A : Nat → Option NoteV} {now : Int} {a : NoteV} : ∀ {n : Nat}, a ∈ countL A now n → ∃ m, m < n ∧ A m = some a ∧ now ≤ a.til := by
  intro n
  induction n with
  | zero => intro h; simp [countL] at h
  | succ n ih =>
    intro h
    unfold countL at h
    rw [List.mem_append] at h
    rcases h with h | h
    · obtain ⟨m, h1, h2⟩ := ih h; exact ⟨m, by omega, h2⟩
    · cases hA : A n with
      | none => rw [hA] at h; simp [countsB] at h
      | some b =>
        rw [hA] at h
        by_cases hb : now ≤ b.til
        · simp [countsB, hb] at h; subst h; exact ⟨n, by omega, hA, hb⟩
        · simp [countsB, hb] at h
theorem mem_nodesL {T : List UInt8 → Nat → Option NoteV} {k : List UInt8} {now : Int} {a : NoteV} (h : a ∈ nodesL T k now) : ∃ m, m < 16 ∧ T k m = some a ∧ now ≤ a.til := by
  unfold nodesL at h
  split at h
  · exact mem_countL h
  · simp at h
theorem good_chk {T : List UInt8 → Nat → Option NoteV} (h : GoodT T) {k : List UInt8} {now : Int} : ∀ a ∈ nodesL T k now, chk a.x a.y = true := fun a ha => by
  obtain ⟨m, _, h1, _⟩ := mem_nodesL ha
  exact (h _ _ _ h1).2.2.2.2.1

/-- All that Find answers. -/
def FindPost (w w' : World) (l : List NoteV) (x y k now : Int) (e : Ending) : Prop :=
  Ext w w' ∧ ((FindB x y k now = false ∧ e = .returned (.tuple #[.slice none 0 0, .int .i64 1])) ∨ (FindB x y k now = true ∧ l = [] ∧ e = .returned (.tuple #[.slice none 0 0, .int .i64 4])) ∨
    (FindB x y k now = true ∧ l ≠ [] ∧ ∃ v order, e = .returned (.tuple #[v, .int .i64 0]) ∧ OrderOf l x y order ∧ ISl w' v ((order.take k.toNat).map (nodeOf l))))
theorem Find_any {bs : Nat} {w0 : World} {tb n : Nat} {room : Int} {T : List UInt8 → Nat → Option NoteV} (s : ByteArray) (hs : s.size ≤ 1000) (x y k now : Int) (w : World) (h : TInv bs w0 w tb n room T) (hg : GoodT T) :
    Calls Try.prog 19 #[.pointer (some ⟨tb, 0, none⟩), .string s, .agg #[.int .i64 x, .int .i64 y], .int .i64 k, .int .i64 now] w fun e w' => FindPost w w' (nodesL T s.data.toList now) x y k now e := by
  cases hb : FindB x y k now with
  | false =>
    refine (Find_bad tb s x y k now w hb).mono ?_
    rintro e w' ⟨rfl, hx⟩
    exact ⟨hx, Or.inl ⟨hb, rfl⟩⟩
  | true =>
    by_cases hz : nodesL T s.data.toList now = []
    · refine (Find_none s hs x y k now w h hb hz).mono ?_
      rintro e w' ⟨rfl, hx⟩
      exact ⟨hx, Or.inr (Or.inl ⟨hb, hz, rfl⟩)⟩
    · refine (Find_some s hs x y k now w h hb hz (good_chk hg)).mono ?_
      rintro e w' ⟨v, order, rfl, ho, hi, hx⟩
      exact ⟨hx, Or.inr (Or.inr ⟨hb, hz, v, order, rfl, ho, hi⟩)⟩

end Go.Proofs.Ytleogddijlabdaa
