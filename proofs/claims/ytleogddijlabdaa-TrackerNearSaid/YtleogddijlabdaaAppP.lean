/- Append of one place onto a row of the call's own. -/
import Derived.Test.YtleogddijlabdaaApp
import Derived.Test.YtleogddijlabdaaNearA
set_option linter.unusedSimpArgs false
set_option linter.unusedVariables false
namespace Go.Proofs.Ytleogddijlabdaa
open Go.RowKit

theorem info_rplace : (Try.prog.info? 27).map (fun i => (i.zero, i.size, i.bytes)) = some (some (.agg #[.int .i64 0, .int .i64 0]), 2, 16) := by kernel_rfl
theorem info_aplace : (Try.prog.info? 23).map (fun i => (i.zero, i.size, i.bytes)) = some (some (.agg #[.int .i64 0, .int .i64 0]), 2, 16) := by kernel_rfl

/-- The cells of n places. -/
def flatP (px py : Nat → Int) : Nat → List Value
  | 0 => []
  | n + 1 => flatP px py n ++ [.int .i64 (px n), .int .i64 (py n)]
theorem flatP_len (px py : Nat → Int) (n : Nat) : (flatP px py n).length = n * 2 := by
  induction n with
  | zero => rfl
  | succ n ih => simp [flatP, ih]; omega
theorem flatP_get (px py : Nat → Int) {n i : Nat} (h : i < n) : (flatP px py n)[i * 2]? = some (.int .i64 (px i)) ∧ (flatP px py n)[i * 2 + 1]? = some (.int .i64 (py i)) := by
  induction n with
  | zero => omega
  | succ n ih =>
    simp only [flatP]
    have hl := flatP_len px py n
    by_cases e : i = n
    · subst e
      rw [List.getElem?_append_right (by omega), List.getElem?_append_right (by omega), hl]
      rw [show i * 2 - i * 2 = 0 from by omega, show i * 2 + 1 - i * 2 = 1 from by omega]
      exact ⟨rfl, rfl⟩
    · rw [List.getElem?_append_left (by omega), List.getElem?_append_left (by omega)]
      exact ih (by omega)

/-- A slice of places of the call's own. -/
def OwnP (w : World) (base : Nat) (e : TypeId) (v : Value) (n : Nat) (px py : Nat → Int) : Prop := w.ownsRow base e 2 v n (flatP px py n)
theorem OwnP.nil (w : World) (base : Nat) (e : TypeId) (px py : Nat → Int) : OwnP w base e (.slice none 0 0) 0 px py := ⟨rfl, Or.inl ⟨rfl, rfl⟩⟩
theorem OwnP.ext {w w' : World} {base : Nat} {e : TypeId} {v : Value} {n : Nat} {px py : Nat → Int} (h : OwnP w base e v n px py) (k : Ext w w') : OwnP w' base e v n px py := by
  obtain ⟨h1, h2⟩ := h
  refine ⟨h1, ?_⟩
  rcases h2 with h2 | ⟨g, cap, cur, hv, hg, hh, r⟩
  · exact Or.inl h2
  · exact Or.inr ⟨g, cap, cur, hv, hg, by rw [k.block (Array.getElem?_eq_some_iff.1 hh).1]; exact hh, r⟩
theorem OwnP.places {w : World} {base : Nat} {e : TypeId} {v : Value} {n : Nat} {px py : Nat → Int} (h : OwnP w base e v n px py) : Places w v n px py := by
  obtain ⟨h1, h2⟩ := h
  rcases h2 with ⟨hv, h0⟩ | ⟨g, cap, cur, hv, hb, hg, hnc, hcap, hsz, htk⟩
  · exact Or.inl ⟨⟨_, _, hv⟩, h0⟩
  · refine Or.inr ⟨g, 0, cap, hv, fun i hi => ?_⟩
    have key : ∀ j u, j < n * 2 → (flatP px py n)[j]? = some u → w.cell? ⟨g, 0 + j, none⟩ = some u := fun j u hj hu => by
      rw [← htk, List.getElem?_take, if_pos hj, Array.getElem?_toList] at hu
      rw [Nat.zero_add]
      simp only [World.cell?, hg, Option.isSome_none, Bool.false_eq_true, if_false]
      exact hu
    have hf := flatP_get px py hi
    exact ⟨key _ _ (by omega) hf.1, key (i * 2 + 1) _ (by omega) hf.2⟩

theorem wp_app_place {ops : Array Oper} {rest : List Oper} {o : Oper} {a : Act} {Q : Exit → Act → World → Prop} {w : World} (hgd : o.guard = none) (s x : Operand) (t e : TypeId)
    (ho : o.op = .call { callee := .builtin .append, args := #[s, x], argTypes := #[t, t] }) (ht : Try.prog.underlying t = some (.slice e))
    (hinfo : (Try.prog.info? e).map (fun i => (i.zero, i.size, i.bytes)) = some (some (.agg #[.int .i64 0, .int .i64 0]), 2, 16))
    (base : Nat) (v : Value) (n : Nat) (px py : Nat → Int) (hs : a.eval s = v) (hown : OwnP w base e v n px py) (ad : Addr) (hx : a.eval x = .slice (some ad) 1 1)
    (hc : w.cell? ad = some (.int .i64 (px n))) (hd : w.cell? (ad.add 1) = some (.int .i64 (py n)))
    (hlen : n ≤ 1000000) (hbase : base ≤ w.heap.size)
    (h : ∀ v' w', OwnP w' base e v' (n + 1) px py → (∀ W, Ext W w → W.heap.size ≤ base → Ext W w') → wpList Try.prog ops Q rest (a.put o.dst v') w') : wpList Try.prog ops Q (o :: rest) a w := by
  obtain ⟨i0, hi, hz0, hz1, hz2⟩ := info_parts hinfo
  refine wpList_append_own w hgd s x t ho base e i0 _ 2 16 ht hi hz0 hz1 hz2 rfl (by decide) v n (flatP px py n) hs hown ad 1 1 [.int .i64 (px n), .int .i64 (py n)] hx rfl ?_ ?_ ?_ ?_ hbase ?_
  · intro j u hj
    match j, hj with
    | 0, hj => simp at hj; subst hj; exact hc
    | 1, hj => simp at hj; subst hj; exact hd
  · simp [Value.oneCell']
  · unfold maxLen; omega
  · omega
  · intro v' w' h1 h2 _
    exact h v' w' h1 fun W hW hb => Ext.grown hW hown h2 hb

end Go.Proofs.Ytleogddijlabdaa
