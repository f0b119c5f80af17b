/- A table in memory; the notes of an entry that count. -/
import Derived.Test.YtleogddijlabdaaDoorTabM
set_option linter.unusedSimpArgs false
set_option linter.unusedVariables false
namespace Go.Proofs.YtleogddijlabdaaDoor
open Go.RowKit Go.Maps

def NoteV.list (a : NoteV) : List Value := [.string a.name, .int .i64 a.node, .int .i64 a.x, .int .i64 a.y, .int .i64 a.til]
/-- A note behind a pointer that may be nil; its block is none of S. -/
def NoteAt (S : Nat → Prop) (w : World) : Option Nat → Option NoteV → Prop
  | none, none => True
  | some nb, some a => ¬ S nb ∧ ∀ j u, a.list[j]? = some u → w.cell? ⟨nb, j, none⟩ = some u
  | _, _ => False
/-- The cells of an entry. -/
def ptrs (Q : Nat → Option Nat) : Array Value := Array.ofFn (n := 16) fun i => ptrTo (Q i.val)
theorem ptrs_size (Q : Nat → Option Nat) : (ptrs Q).size = 16 := by simp [ptrs]
theorem ptrs_get (Q : Nat → Option Nat) {i : Nat} (h : i < 16) : (ptrs Q)[i]? = some (ptrTo (Q i)) := by
  unfold ptrs; rw [Array.getElem?_ofFn, dif_pos h]
theorem ptrs_set (Q : Nat → Option Nat) {i : Nat} (h : i < 16) (q : Option Nat) : (ptrs Q).setIfInBounds i (ptrTo q) = ptrs (fun j => if j = i then q else Q j) := by
  apply Array.ext
  · simp [ptrs]
  · intro k h1 h2
    have hk : k < 16 := by simpa [ptrs] using h2
    have e1 := Array.getElem?_setIfInBounds (xs := ptrs Q) (i := i) (j := k) (a := ptrTo q)
    have e2 := ptrs_get (fun j => if j = i then q else Q j) hk
    have e3 := ptrs_get Q hk
    rw [Array.getElem?_eq_getElem h1] at e1
    rw [Array.getElem?_eq_getElem h2] at e2
    have e2' := Option.some.inj e2
    rw [e2']
    by_cases e : i = k
    · subst e
      rw [if_pos rfl, if_pos (by rw [ptrs_size]; omega)] at e1
      rw [if_pos rfl]; exact Option.some.inj e1
    · rw [if_neg e, e3] at e1
      rw [if_neg (fun h => e h.symm)]; exact Option.some.inj e1

/-- An entry: sixteen pointers to notes. -/
def EntAt (S : Nat → Prop) (w : World) (b : Nat) (A : Nat → Option NoteV) : Prop :=
  ∃ Q : Nat → Option Nat, w.heap[b]? = some (.cells (ptrs Q) 66 (0, 0)) ∧ ∀ i, i < 16 → NoteAt S w (Q i) (A i)

theorem NoteAt.ext {S : Nat → Prop} {w w' : World} {q : Option Nat} {a : Option NoteV} (h : NoteAt S w q a) (k : Ext w w') : NoteAt S w' q a := by
  cases q <;> cases a <;> simp only [NoteAt] at h ⊢
  exact ⟨h.1, fun j u hu => k.cellAt (h.2 j u hu)⟩
theorem EntAt.ext {S : Nat → Prop} {w w' : World} {b : Nat} {A : Nat → Option NoteV} (h : EntAt S w b A) (k : Ext w w') : EntAt S w' b A := by
  obtain ⟨Q, h1, h2⟩ := h
  exact ⟨Q, by rw [k.block (Array.getElem?_eq_some_iff.1 h1).1]; exact h1, fun i hi => (h2 i hi).ext k⟩
theorem EntAt.at {S : Nat → Prop} {w : World} {b : Nat} {A : Nat → Option NoteV} (h : EntAt S w b A) (i : Nat) (hi : i < 16) : ∃ q, w.cell? ⟨b, i, none⟩ = some (ptrTo q) ∧ w.frozen? ⟨b, i, none⟩ = false ∧ NoteAt S w q (A i) := by
  obtain ⟨Q, h1, h2⟩ := h
  refine ⟨Q i, ?_, ?_, h2 i hi⟩
  · simp only [World.cell?, h1, Option.isSome_none, Bool.false_eq_true, if_false]; exact ptrs_get Q hi
  · simp only [World.frozen?, h1]; simp

def countsB (now : Int) : Option NoteV → Bool
  | some a => decide (now ≤ a.til)
  | none => false
/-- The notes of an entry that count, of the first k places. -/
def countL (A : Nat → Option NoteV) (now : Int) : Nat → List NoteV
  | 0 => []
  | k + 1 => countL A now k ++ (if countsB now (A k) then (A k).toList else [])
theorem countL_len (A : Nat → Option NoteV) (now : Int) (k : Nat) : (countL A now k).length ≤ k := by
  induction k with
  | zero => simp [countL]
  | succ k ih =>
    simp only [countL, List.length_append]
    have : (if countsB now (A k) = true then (A k).toList else []).length ≤ 1 := by
      split
      · cases A k <;> simp
      · simp
    omega

def flatN (l : List NoteV) : List Value := l.flatMap NoteV.list
theorem flatN_snoc (l : List NoteV) (a : NoteV) : flatN (l ++ [a]) = flatN l ++ a.list := by simp [flatN]
/-- A slice of notes. -/
def NSl (w : World) (v : Value) (l : List NoteV) : Prop := CSl w v l.length (flatN l)
theorem info_note : (Tryd.prog.info? 25).map (fun i => (i.zero, i.size, i.bytes)) = some (some (.agg #[.string ByteArray.empty, .int .i64 0, .int .i64 0, .int .i64 0, .int .i64 0]), 5, 48) := by kernel_rfl

def OwnN (w : World) (base : Nat) (v : Value) (l : List NoteV) : Prop := w.ownsRow base 25 5 v l.length (flatN l)

def CountRel (w : World) (b : Nat) (A : Nat → Option NoteV) (now : Int) (v iv : Value) (wr : World) : Prop :=
  ∃ i : Nat, iv = .int .i64 i ∧ i ≤ 16 ∧ OwnN wr w.heap.size v (countL A now i) ∧ Ext w wr

def NodesPost (w w' : World) (l : List NoteV) (e : Ending) : Prop := ∃ v, e = .returned v ∧ NSl w' v l ∧ Ext w w'

set_option maxRecDepth 100000 in
set_option maxHeartbeats 1000000 in
theorem counting_any (S : Nat → Prop) (b : Nat) (A : Nat → Option NoteV) (now : Int) (w : World) (h : EntAt S w b A) :
    Calls Tryd.prog 25 #[.pointer (some ⟨b, 0, none⟩), .int .i64 now] w fun e w' => NodesPost w w' (countL A now 16) e := by
  have HE := Lib.hid h
  clear h
  go_enter Tryd.func25, Tryd.ntmps25
  go_wp2_with fail
  go_loopw [5, 9] (fun v iv wr => CountRel w b A now v iv wr) (fun _ i _ => 16 - (intOf i).toNat)
  case atStart => exact ⟨0, rfl, by omega, ⟨rfl, Or.inl ⟨rfl, rfl⟩⟩, Ext.refl _⟩
  case round =>
    obtain ⟨i, rfl, hi, hown, hx⟩ := hrel
    have HO := Lib.hid hown
    have HX := Lib.hid hx
    by_cases hlt : i < 16
    · obtain ⟨q, c1, _, hn⟩ := (HE.out.ext hx).at i hlt
      have i1 : (0 : Int) ≤ (i : Int) := by omega
      have i2 : (i : Int) < 16 := by omega
      have hlen := countL_len A now i
      cases q with
      | none =>
        cases hA : A i with
        | some a => rw [hA] at hn; exact absurd hn (by simp [NoteAt])
        | none =>
          have HA := Lib.hid hA
          simp only [ptrTo] at c1
          clear hA hn hown hx
          go_wp2_with fail
          go_roundw
          case rel =>
            unfold CountRel
            exact ⟨i + 1, by go_num, by omega, by simp only [countL, HA.out, countsB]; simpa using HO.out, HX.out⟩
          case measure => simp [intOf]; omega
      | some nb =>
        cases hA : A i with
        | none => rw [hA] at hn; exact absurd hn (by simp [NoteAt])
        | some a =>
          rw [hA] at hn
          simp only [NoteAt] at hn
          simp only [ptrTo] at c1
          have n0 := hn.2 0 _ rfl
          have n1 := hn.2 1 _ rfl
          have n2 := hn.2 2 _ rfl
          have n3 := hn.2 3 _ rfl
          have n4 := hn.2 4 _ rfl
          have HA := Lib.hid hA
          clear hA hn hown hx
          by_cases ht : now ≤ a.til
          · have hw := HX.out.size
            have one : ∀ u ∈ a.list, u.oneCell' = true := by intro u hu; simp [NoteV.list] at hu; rcases hu with rfl | rfl | rfl | rfl | rfl <;> rfl
            have ONE := Lib.hid one
            clear one
            go_wp2_with (at_builtin; refine wp_app rfl _ _ 44 25 rfl Tryd.underlying44 info_note rfl (by decide) (by decide) w.heap.size _ (countL A now i).length (flatN (countL A now i)) a.list rfl (ownsRow_ext HO.out (by (repeat' (first | exact Ext.refl _ | assumption | (apply Ext.after; assumption) | (refine Ext.alloc ?_ _) | (refine Ext.drew ?_) | (refine Ext.drewN ?_ _) | (refine Ext.setCell ?_ ?_ _) | (simp; done) | (simp; omega) | omega)))) _ rfl rfl (news_of _ _ _) ONE.out (by omega) (by simp; omega) ?_; intro v' w3 hown' hext)
            have hx3 : Ext w w3 := hext _ (HX.out.alloc _) (Nat.le_refl _)
            have hown2 : OwnN w3 w.heap.size v' (countL A now i ++ [a]) := by unfold OwnN; rw [List.length_append, flatN_snoc]; exact hown'
            have hcb : countsB now (some a) = true := by simp [countsB, ht]
            have HO2 := Lib.hid hown2
            have HCB := Lib.hid hcb
            clear hown' hown2 hext hcb
            go_wp2_with fail
            go_roundw
            case rel =>
              unfold CountRel
              refine ⟨i + 1, by go_num, by omega, ?_, hx3⟩
              simp only [countL, HA.out, HCB.out, if_true, Option.toList]; exact HO2.out
            case measure => simp [intOf]; omega
          · go_wp2_with fail
            go_roundw
            case rel =>
              unfold CountRel
              exact ⟨i + 1, by go_num, by omega, by simp only [countL, HA.out, countsB]; simpa [ht] using HO.out, HX.out⟩
            case measure => simp [intOf]; omega
    · obtain rfl : i = 16 := by omega
      go_wp2_with fail
      go_ret
      exact ⟨_, rfl, CSl.of_own HO.out, HX.out⟩

end Go.Proofs.YtleogddijlabdaaDoor
