/- The plain law of the stable sort: segments, insertion, merging about a place. -/
import Derived.Test.YtleogddijlabdaaRow
import Derived.Test.YtleogddijlabdaaSrtA
set_option linter.unusedSimpArgs false
set_option linter.unusedVariables false
namespace Go.Proofs.Ytleogddijlabdaa
namespace Srt

/-- The order of the sort: by the key, those of one key by their number. -/
def LT (K : Int → Int) (x y : Int) : Prop := K x < K y ∨ (K x = K y ∧ x < y)
theorem LT.trans {K : Int → Int} {x y z : Int} (h : LT K x y) (k : LT K y z) : LT K x z := by unfold LT at *; omega
theorem LT.irrefl {K : Int → Int} {x : Int} (h : LT K x x) : False := by unfold LT at h; omega
theorem LT.total {K : Int → Int} {x y : Int} (h : x ≠ y) : LT K x y ∨ LT K y x := by unfold LT; omega

def Sorted (K : Int → Int) (f : Nat → Int) (a b : Nat) : Prop := ∀ p q, a ≤ p → p < q → q < b → LT K (f p) (f q)
/-- f and g hold the same numbers from a to b, and are one elsewhere. -/
structure Same (f g : Nat → Int) (a b : Nat) : Prop where
  out : ∀ p, p < a ∨ b ≤ p → g p = f p
  to : ∀ p, a ≤ p → p < b → ∃ q, a ≤ q ∧ q < b ∧ f p = g q
  of : ∀ p, a ≤ p → p < b → ∃ q, a ≤ q ∧ q < b ∧ g p = f q

theorem Same.refl (f : Nat → Int) (a b : Nat) : Same f f a b := ⟨fun _ _ => rfl, fun p h k => ⟨p, h, k, rfl⟩, fun p h k => ⟨p, h, k, rfl⟩⟩
theorem Same.trans {f g h : Nat → Int} {a b : Nat} (x : Same f g a b) (y : Same g h a b) : Same f h a b :=
  ⟨fun p k => (y.out p k).trans (x.out p k),
   fun p k l => by obtain ⟨q, h1, h2, h3⟩ := x.to p k l; obtain ⟨r, h4, h5, h6⟩ := y.to q h1 h2; exact ⟨r, h4, h5, h3.trans h6⟩,
   fun p k l => by obtain ⟨q, h1, h2, h3⟩ := y.of p k l; obtain ⟨r, h4, h5, h6⟩ := x.of q h1 h2; exact ⟨r, h4, h5, h3.trans h6⟩⟩
theorem Same.mono {f g : Nat → Int} {a b c d : Nat} (x : Same f g a b) (h : c ≤ a) (k : b ≤ d) : Same f g c d := by
  refine ⟨fun p e => x.out p (by omega), fun p e1 e2 => ?_, fun p e1 e2 => ?_⟩
  · by_cases i : a ≤ p ∧ p < b
    · obtain ⟨q, h1, h2, h3⟩ := x.to p i.1 i.2; exact ⟨q, by omega, by omega, h3⟩
    · exact ⟨p, e1, e2, (x.out p (by omega)).symm⟩
  · by_cases i : a ≤ p ∧ p < b
    · obtain ⟨q, h1, h2, h3⟩ := x.of p i.1 i.2; exact ⟨q, by omega, by omega, h3⟩
    · exact ⟨p, e1, e2, x.out p (by omega)⟩

theorem Same.ex (f : Nat → Int) {a b i j : Nat} (hi : a ≤ i) (hib : i < b) (hj : a ≤ j) (hjb : j < b) : Same f (ex f i j) a b := by
  refine ⟨fun p e => ?_, fun p e1 e2 => ?_, fun p e1 e2 => ?_⟩
  · unfold Go.Proofs.Ytleogddijlabdaa.ex; rw [if_neg (by omega), if_neg (by omega)]
  · unfold Go.Proofs.Ytleogddijlabdaa.ex
    by_cases h1 : p = i
    · exact ⟨j, hj, hjb, by rw [if_pos rfl, h1]⟩
    · by_cases h2 : p = j
      · by_cases h3 : i = j
        · exact ⟨j, hj, hjb, by rw [if_pos rfl, h2, h3]⟩
        · exact ⟨i, hi, hib, by rw [if_neg h3, if_pos rfl, h2]⟩
      · exact ⟨p, e1, e2, by rw [if_neg h2, if_neg h1]⟩
  · unfold Go.Proofs.Ytleogddijlabdaa.ex
    split
    · exact ⟨i, hi, hib, rfl⟩
    · split
      · exact ⟨j, hj, hjb, rfl⟩
      · exact ⟨p, e1, e2, rfl⟩

/-- The state of an insertion: the number of place i stands at j. -/
structure Ins (K : Int → Int) (f g : Nat → Int) (a i j : Nat) : Prop where
  same : Same f g a (i + 1)
  srt : ∀ p q, a ≤ p → p < q → q < i + 1 → p ≠ j → q ≠ j → LT K (g p) (g q)
  up : ∀ q, j < q → q < i + 1 → LT K (g j) (g q)
  at_ : g j = f i
  old : ∀ p, a ≤ p → p < i + 1 → p ≠ j → ∃ q, a ≤ q ∧ q < i ∧ g p = f q

theorem Ins.begin {K : Int → Int} {f g : Nat → Int} {a i : Nat} (h : Same f g a i) (hs : Sorted K g a i) : Ins K f g a i i :=
  ⟨h.mono (Nat.le_refl _) (by omega), fun p q h1 h2 h3 h4 h5 => hs p q h1 h2 (by omega), fun q h1 h2 => by omega, h.out i (by omega), fun p h1 h2 h3 => h.of p h1 (by omega)⟩

theorem Ins.step {K : Int → Int} {f g : Nat → Int} {a i j : Nat} (h : Ins K f g a i j) (hj : a < j) (hji : j ≤ i) (hlt : K (g j) < K (g (j - 1))) : Ins K f (ex g j (j - 1)) a i (j - 1) := by
  have e1 : ex g j (j - 1) (j - 1) = g j := by unfold ex; rw [if_pos rfl]
  have e2 : ex g j (j - 1) j = g (j - 1) := by unfold ex; rw [if_neg (by omega), if_pos rfl]
  have e3 : ∀ p, p ≠ j → p ≠ j - 1 → ex g j (j - 1) p = g p := fun p h1 h2 => by unfold ex; rw [if_neg h2, if_neg h1]
  refine ⟨h.same.trans (Same.ex g (by omega) (by omega) (by omega) (by omega)), fun p q h1 h2 h3 h4 h5 => ?_, fun q h1 h2 => ?_, by rw [e1]; exact h.at_, fun p h1 h2 h3 => ?_⟩
  · by_cases hp : p = j
    · subst hp; rw [e2, e3 q (by omega) (by omega)]; exact h.srt _ _ (by omega) (by omega) h3 (by omega) (by omega)
    · rw [e3 p hp h4]
      by_cases hq : q = j
      · subst hq; rw [e2]; exact h.srt _ _ h1 (by omega) (by omega) (by omega) (by omega)
      · rw [e3 q hq h5]; exact h.srt _ _ h1 h2 h3 hp hq
  · rw [e1]
    by_cases hq : q = j
    · subst hq; rw [e2]; exact Or.inl hlt
    · rw [e3 q hq (by omega)]; exact h.up q (by omega) h2
  · by_cases hp : p = j
    · subst hp; rw [e2]; exact h.old _ (by omega) (by omega) (by omega)
    · rw [e3 p hp h3]; exact h.old p h1 h2 hp

theorem Ins.done {K : Int → Int} {f g : Nat → Int} {a i j : Nat} (h : Ins K f g a i j) (hj : a ≤ j) (hji : j ≤ i) (hinc : ∀ p q, a ≤ p → p < q → q < i + 1 → f p < f q)
    (hlast : j = a ∨ ¬ K (g j) < K (g (j - 1))) : Same f g a (i + 1) ∧ Sorted K g a (i + 1) := by
  refine ⟨h.same, fun p q h1 h2 h3 => ?_⟩
  by_cases hp : p = j
  · subst hp; exact h.up q h2 h3
  · by_cases hq : q = j
    · subst hq
      -- p is below j: its number is at most that of j - 1, which is below that of j
      have hlast' : ¬ K (g q) < K (g (q - 1)) := by
        rcases hlast with e | e
        · omega
        · exact e
      obtain ⟨r, r1, r2, r3⟩ := h.old (q - 1) (by omega) (by omega) (by omega)
      have hr := hinc r i r1 r2 (by omega)
      have hb : LT K (g (q - 1)) (g q) := by rw [h.at_, r3] at hlast' ⊢; unfold LT; omega
      by_cases hpq : p = q - 1
      · subst hpq; exact hb
      · exact (h.srt p (q - 1) h1 (by omega) (by omega) hp (by omega)).trans hb
    · exact h.srt p q h1 h2 h3 hp hq


/-- The state of a search for the place at which a merge turns: P holds below, not from r on. -/
theorem mid_lt {s r : Nat} (h : s < r) : s ≤ (s + r) / 2 ∧ (s + r) / 2 < r := by omega

/-- What a merge is handed: two sorted halves, all numbers of the left one below those of the right one. -/
structure Halves (K : Int → Int) (f : Nat → Int) (a m b : Nat) : Prop where
  left : Sorted K f a m
  right : Sorted K f m b
  num : ∀ p q, a ≤ p → p < m → m ≤ q → q < b → f p < f q

/-- A number of the right half goes before one of the left half just where its key is less. -/
theorem Halves.cross {K : Int → Int} {f : Nat → Int} {a m b p q : Nat} (h : Halves K f a m b) (h1 : a ≤ p) (h2 : p < m) (h3 : m ≤ q) (h4 : q < b) :
    (LT K (f q) (f p) ↔ K (f q) < K (f p)) ∧ (LT K (f p) (f q) ↔ ¬ K (f q) < K (f p)) := by
  have := h.num p q h1 h2 h3 h4
  unfold LT; omega

/-- One number on the left: it goes behind all of the right half that are below it. -/
theorem one_left {K : Int → Int} {f g : Nat → Int} {a b i : Nat} (h : Halves K f a (a + 1) b) (h1 : a + 1 ≤ i) (h2 : i ≤ b)
    (lo : ∀ q, a + 1 ≤ q → q < i → K (f q) < K (f a)) (hi : ∀ q, i ≤ q → q < b → ¬ K (f q) < K (f a))
    (g1 : ∀ p, a ≤ p → p < i - 1 → g p = f (p + 1)) (g2 : g (i - 1) = f a) (g3 : ∀ p, p < a ∨ i ≤ p → g p = f p) : Same f g a b ∧ Sorted K g a b := by
  refine ⟨⟨fun p e => g3 p (by omega), fun p e1 e2 => ?_, fun p e1 e2 => ?_⟩, fun p q h3 h4 h5 => ?_⟩
  · by_cases c : p = a
    · subst c; exact ⟨i - 1, by omega, by omega, g2.symm⟩
    · by_cases d : p < i
      · exact ⟨p - 1, by omega, by omega, by rw [g1 _ (by omega) (by omega), show p - 1 + 1 = p from by omega]⟩
      · exact ⟨p, e1, e2, (g3 p (by omega)).symm⟩
  · by_cases c : p < i - 1
    · exact ⟨p + 1, by omega, by omega, g1 p e1 c⟩
    · by_cases d : p = i - 1
      · subst d; exact ⟨a, by omega, by omega, g2⟩
      · exact ⟨p, e1, e2, g3 p (by omega)⟩
  · by_cases c : q < i - 1
    · rw [g1 p h3 (by omega), g1 q (by omega) c]; exact h.right _ _ (by omega) (by omega) (by omega)
    · by_cases d : q = i - 1
      · subst d; rw [g2, g1 p h3 (by omega)]
        exact Or.inl (lo _ (by omega) (by omega))
      · rw [g3 q (by omega)]
        have hq : ¬ K (f q) < K (f a) := hi q (by omega) h5
        by_cases e : p < i - 1
        · rw [g1 p h3 e]; exact h.right _ _ (by omega) (by omega) h5
        · by_cases e' : p = i - 1
          · subst e'; rw [g2]; exact ((h.cross (Nat.le_refl a) (by omega) (by omega) h5).2).2 hq
          · rw [g3 p (by omega)]; exact h.right _ _ (by omega) h4 h5

/-- One number on the right: it goes ahead of all of the left half that are above it. -/
theorem one_right {K : Int → Int} {f g : Nat → Int} {a m i : Nat} (h : Halves K f a m (m + 1)) (h1 : a ≤ i) (h2 : i ≤ m)
    (lo : ∀ p, a ≤ p → p < i → ¬ K (f m) < K (f p)) (hi : ∀ p, i ≤ p → p < m → K (f m) < K (f p))
    (g1 : ∀ p, i < p → p ≤ m → g p = f (p - 1)) (g2 : g i = f m) (g3 : ∀ p, p < i ∨ m < p → g p = f p) : Same f g a (m + 1) ∧ Sorted K g a (m + 1) := by
  refine ⟨⟨fun p e => g3 p (by omega), fun p e1 e2 => ?_, fun p e1 e2 => ?_⟩, fun p q h3 h4 h5 => ?_⟩
  · by_cases c : p = m
    · subst c; exact ⟨i, by omega, by omega, g2.symm⟩
    · by_cases d : p < i
      · exact ⟨p, e1, e2, (g3 p (by omega)).symm⟩
      · exact ⟨p + 1, by omega, by omega, by rw [g1 _ (by omega) (by omega)]; rfl⟩
  · by_cases c : p < i
    · exact ⟨p, e1, e2, g3 p (by omega)⟩
    · by_cases d : p = i
      · subst d; exact ⟨m, by omega, by omega, g2⟩
      · exact ⟨p - 1, by omega, by omega, g1 p (by omega) (by omega)⟩
  · by_cases c : q < i
    · rw [g3 p (by omega), g3 q (by omega)]; exact h.left _ _ h3 h4 (by omega)
    · by_cases d : q = i
      · subst d; rw [g2, g3 p (by omega)]
        exact ((h.cross h3 (by omega) (Nat.le_refl m) (by omega)).2).2 (lo p h3 h4)
      · rw [g1 q (by omega) (by omega)]
        have hq : K (f m) < K (f (q - 1)) := hi _ (by omega) (by omega)
        by_cases e : p < i
        · rw [g3 p (by omega)]; exact h.left _ _ h3 (by omega) (by omega)
        · by_cases e' : p = i
          · subst e'; rw [g2]; exact Or.inl hq
          · rw [g1 p (by omega) (by omega)]; exact h.left _ _ (by omega) (by omega) (by omega)

/-- Where the merge turns: behind the rotation about s the lower half holds what is below all of the upper half. -/
structure Cut (K : Int → Int) (f : Nat → Int) (a m b n s : Nat) : Prop where
  low : a ≤ s
  le : s ≤ m
  ends : m ≤ n - s
  hi : n - s ≤ b
  ns : s ≤ n
  x : ∀ p q, a ≤ p → p < s → n - s ≤ q → q < b → LT K (f p) (f q)
  y : ∀ p q, s ≤ p → p < m → m ≤ q → q < n - s → LT K (f q) (f p)

theorem Sorted.le {K : Int → Int} {f : Nat → Int} {a b p q : Nat} (h : Sorted K f a b) (h1 : a ≤ p) (h2 : p ≤ q) (h3 : q < b) : f p = f q ∨ LT K (f p) (f q) := by
  by_cases e : p = q
  · left; rw [e]
  · right; exact h p q h1 (by omega) h3

theorem Cut.mk' {K : Int → Int} {f : Nat → Int} {a m b n s : Nat} (h : Halves K f a m b) (low : a ≤ s) (le : s ≤ m) (ends : m ≤ n - s) (hi : n - s ≤ b) (ns : s ≤ n)
    (hx : s = a ∨ n - s = b ∨ ¬ K (f (n - s)) < K (f (s - 1))) (hy : s = m ∨ n - s = m ∨ K (f (n - 1 - s)) < K (f s)) : Cut K f a m b n s := by
  refine ⟨low, le, ends, hi, ns, fun p q h1 h2 h3 h4 => ?_, fun p q h1 h2 h3 h4 => ?_⟩
  · rcases hx with e | e | e
    · omega
    · omega
    · have c := ((h.cross (p := s - 1) (q := n - s) (by omega) (by omega) (by omega) (by omega)).2).2 e
      rcases h.left.le (p := p) (q := s - 1) h1 (by omega) (by omega) with i | i <;> rcases h.right.le (p := n - s) (q := q) (by omega) h3 h4 with j | j
      · rw [i, ← j]; exact c
      · rw [i]; exact c.trans j
      · rw [← j]; exact i.trans c
      · exact i.trans (c.trans j)
  · rcases hy with e | e | e
    · omega
    · omega
    · have c : LT K (f (n - 1 - s)) (f s) := Or.inl e
      rcases h.left.le (p := s) (q := p) (by omega) h1 h2 with i | i <;> rcases h.right.le (p := q) (q := n - 1 - s) h3 (by omega) (by omega) with j | j
      · rw [j, ← i]; exact c
      · rw [← i]; exact j.trans c
      · rw [j]; exact c.trans i
      · exact j.trans (c.trans i)

theorem rot_in1 (f : Nat → Int) {s m e p : Nat} (h1 : s ≤ p) (h2 : p < s + (e - m)) (hm : s ≤ m) (he : m ≤ e) : rot f s m e p = f (p + (m - s)) := by
  unfold rot; rw [if_neg (by omega), if_pos h2]
theorem rot_in2 (f : Nat → Int) {s m e p : Nat} (h1 : s + (e - m) ≤ p) (h2 : p < e) (hm : s ≤ m) (he : m ≤ e) : rot f s m e p = f (p - (e - m)) := by
  unfold rot; rw [if_neg (by omega), if_neg (by omega)]
theorem rot_out (f : Nat → Int) {s m e p : Nat} (h : p < s ∨ e ≤ p) : rot f s m e p = f p := by
  unfold rot; rw [if_pos h]
theorem rot_id (f : Nat → Int) {s m e : Nat} (hm : s ≤ m) (he : m ≤ e) (h : s = m ∨ m = e) : rot f s m e = f := by
  funext p; unfold rot; repeat' split
  all_goals first | rfl | (exfalso; omega) | (congr 1; omega)

theorem rot_same' (f : Nat → Int) {s m e : Nat} (hm : s ≤ m) (he : m ≤ e) : Same f (rot f s m e) s e := by
  refine ⟨fun p h => rot_out f h, fun p h1 h2 => ?_, fun p h1 h2 => ?_⟩
  · by_cases c : p < m
    · exact ⟨p + (e - m), by omega, by omega, by rw [rot_in2 f (by omega) (by omega) hm he]; congr 1; omega⟩
    · exact ⟨p - (m - s), by omega, by omega, by rw [rot_in1 f (by omega) (by omega) hm he]; congr 1; omega⟩
  · by_cases c : p < s + (e - m)
    · exact ⟨p + (m - s), by omega, by omega, rot_in1 f h1 c hm he⟩
    · exact ⟨p - (e - m), by omega, by omega, rot_in2 f (by omega) h2 hm he⟩

variable {K : Int → Int} {f : Nat → Int} {a m b mid s : Nat}
theorem low_halves (h : Halves K f a m b) (c : Cut K f a m b (mid + m) s) : Halves K (rot f s m (mid + m - s)) a s mid := by
  have := c.low; have := c.le; have := c.ends; have := c.hi
  refine ⟨fun p q h1 h2 h3 => ?_, fun p q h1 h2 h3 => ?_, fun p q h1 h2 h3 h4 => ?_⟩
  · rw [rot_out f (by omega), rot_out f (by omega)]; exact h.left p q h1 h2 (by omega)
  · rw [rot_in1 f h1 (by omega) (by omega) (by omega), rot_in1 f (by omega) (by omega) (by omega) (by omega)]
    exact h.right _ _ (by omega) (by omega) (by omega)
  · rw [rot_out f (by omega), rot_in1 f h3 (by omega) (by omega) (by omega)]
    exact h.num _ _ h1 (by omega) (by omega) (by omega)

theorem high_halves (h : Halves K f a m b) (c : Cut K f a m b (mid + m) s) : Halves K (rot f s m (mid + m - s)) mid (mid + m - s) b := by
  have := c.low; have := c.le; have := c.ends; have := c.hi
  refine ⟨fun p q h1 h2 h3 => ?_, fun p q h1 h2 h3 => ?_, fun p q h1 h2 h3 h4 => ?_⟩
  · rw [rot_in2 f (by omega) (by omega) (by omega) (by omega), rot_in2 f (by omega) (by omega) (by omega) (by omega)]
    exact h.left _ _ (by omega) (by omega) (by omega)
  · rw [rot_out f (by omega), rot_out f (by omega)]; exact h.right p q (by omega) h2 h3
  · rw [rot_in2 f (by omega) (by omega) (by omega) (by omega), rot_out f (by omega)]
    exact h.num _ _ (by omega) (by omega) (by omega) h4

theorem cross_mid (h : Halves K f a m b) (c : Cut K f a m b (mid + m) s) (hs : s ≤ mid) : ∀ p q, a ≤ p → p < mid → mid ≤ q → q < b →
    LT K (rot f s m (mid + m - s) p) (rot f s m (mid + m - s) q) := by
  have := c.low; have := c.le; have := c.ends; have := c.hi
  intro p q h1 h2 h3 h4
  by_cases e1 : p < s <;> by_cases e2 : q < mid + m - s
  · rw [rot_out f (by omega), rot_in2 f (by omega) (by omega) (by omega) (by omega)]
    exact h.left _ _ h1 (by omega) (by omega)
  · rw [rot_out f (by omega), rot_out f (by omega)]; exact c.x _ _ h1 e1 (by omega) h4
  · rw [rot_in1 f (by omega) (by omega) (by omega) (by omega), rot_in2 f (by omega) (by omega) (by omega) (by omega)]
    exact c.y _ _ (by omega) (by omega) (by omega) (by omega)
  · rw [rot_in1 f (by omega) (by omega) (by omega) (by omega), rot_out f (by omega)]
    exact h.right _ _ (by omega) (by omega) h4

/-- A half that is empty: the other one is sorted by itself. -/
theorem Halves.sorted {a m b : Nat} {f : Nat → Int} (h : Halves K f a m b) (e : a = m ∨ m = b) : Sorted K f a b := by
  rcases e with rfl | rfl
  · exact h.right
  · exact h.left

theorem Halves.congr {a m b : Nat} {f g : Nat → Int} (h : Halves K f a m b) (h1 : a ≤ m) (h2 : m ≤ b) (e : ∀ p, a ≤ p → p < b → g p = f p) : Halves K g a m b :=
  ⟨fun p q h1 h2 h3 => by rw [e p h1 (by omega), e q (by omega) (by omega)]; exact h.left p q h1 h2 h3,
    fun p q h1 h2 h3 => by rw [e p (by omega) (by omega), e q (by omega) h3]; exact h.right p q h1 h2 h3,
    fun p q h1 h2 h3 h4 => by rw [e p h1 (by omega), e q (by omega) h4]; exact h.num p q h1 h2 h3 h4⟩

theorem merge_done {g1 g2 : Nat → Int} (h : Halves K f a m b) (c : Cut K f a m b (mid + m) s) (hs : s ≤ mid) (h1 : a ≤ mid) (h2 : mid ≤ b)
    (x1 : Same (rot f s m (mid + m - s)) g1 a mid) (y1 : Sorted K g1 a mid) (x2 : Same g1 g2 mid b) (y2 : Sorted K g2 mid b) : Same f g2 a b ∧ Sorted K g2 a b := by
  have := c.low; have := c.le; have := c.ends; have := c.hi
  refine ⟨(((rot_same' f c.le c.ends).mono c.low c.hi).trans (x1.mono (Nat.le_refl _) h2)).trans (x2.mono h1 (Nat.le_refl _)), fun p q h3 h4 h5 => ?_⟩
  by_cases e1 : q < mid
  · rw [x2.out p (by omega), x2.out q (by omega)]; exact y1 p q h3 h4 e1
  · by_cases e2 : mid ≤ p
    · exact y2 p q e2 h4 h5
    · rw [x2.out p (by omega)]
      obtain ⟨p', i1, i2, i3⟩ := x1.of p h3 (by omega)
      obtain ⟨q', j1, j2, j3⟩ := x2.of q (by omega) h5
      rw [i3, j3, x1.out q' (by omega)]
      exact cross_mid h c hs p' q' i1 i2 j1 j2

end Srt
end Go.Proofs.Ytleogddijlabdaa
