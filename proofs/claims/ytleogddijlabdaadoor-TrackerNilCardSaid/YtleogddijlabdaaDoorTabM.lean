/- A map of strings to entries, as a function; slices of any cells. -/
import Derived.Test.YtleogddijlabdaaDoorTrkA
import Derived.Maps.Keyed
import Derived.Sort.KeysCollected
import Derived.Sort.MapsRangeIn
set_option linter.unusedSimpArgs false
set_option linter.unusedVariables false
namespace Go.Proofs.YtleogddijlabdaaDoor
open Go.RowKit Go.Maps

def R0 (v : Value) : Option (DataW Value × List MemPlace) := some (.held v, [])
theorem keyed : Keyed Tryd.prog 9 := string_keyed Tryd.underlying9
theorem zeroEnt (w : World) : (zeroValue 63).run Tryd.prog w = .ok (.pointer none) w := by kernel_rfl

def ptrTo : Option Nat → Value
  | none => .pointer none
  | some b => .pointer (some ⟨b, 0, none⟩)

/-- Block mb is a map that leads from each name to the block of its entry, as F says. -/
structure MapF (w : World) (mb n : Nat) (F : List UInt8 → Option Nat) (D : DataW Value) : Prop where
  own : w.ownsMap Tryd.prog 9 R0 mb n D
  tidy : Tidy D
  has : ∀ k, Maps.has D (.string k) = (F k).isSome
  at_ : ∀ k b, F k = some b → ∀ z, D.atKey (.string k) z = .held (.pointer (some ⟨b, 0, none⟩))

theorem MapF.ext {w w' : World} {mb n : Nat} {F : List UInt8 → Option Nat} {D : DataW Value} (h : MapF w mb n F D) (k : Ext w w') : MapF w' mb n F D := by
  refine ⟨?_, h.tidy, h.has, h.at_⟩
  obtain ⟨es, clock, hb, r⟩ := h.own
  exact ⟨es, clock, by rw [k.block (Array.getElem?_eq_some_iff.1 hb).1]; exact hb, r⟩

theorem MapF.lt {w : World} {mb n : Nat} {F : List UInt8 → Option Nat} {D : DataW Value} (h : MapF w mb n F D) : mb < w.heap.size := h.own.lt

theorem key_of (s : ByteArray) (hs : s.size ≤ 1000) : keyOf Tryd.prog 9 (.string s) = some (.string s.data.toList) := WideMaps.keyOf_string_mk Tryd.underlying9 (by unfold maxLen; omega)

theorem MapF.lookup {w : World} {mb n : Nat} {F : List UInt8 → Option Nat} {D : DataW Value} (h : MapF w mb n F D) (s : ByteArray) (hs : s.size ≤ 1000) :
    (Instr.lookup 59 (.map (some mb)) (.string s) false).run Tryd.prog w = .ok (ptrTo (F s.data.toList)) w := by
  obtain ⟨v, ps, hrun, hv⟩ := h.own.lookup keyed Tryd.underlying59 (zeroEnt w) (zd := .held (.pointer none)) (zp := []) rfl (key_of s hs)
  have e : DataW.held v = D.atKey (.string s.data.toList) (.held (.pointer none)) := by
    have := Option.some.inj hv
    exact congrArg Prod.fst this
  have e2 : v = ptrTo (F s.data.toList) := by
    cases hF : F s.data.toList with
    | none =>
      rw [atKey_of_not_has (by rw [h.has, hF]; rfl)] at e
      exact DataW.held.inj e
    | some b =>
      rw [h.at_ _ b hF] at e
      exact DataW.held.inj e
  rw [hrun, e2]

theorem MapF.made (w : World) : MapF (w.alloc (.map #[] 0)) w.heap.size 0 (fun _ => none) (.map []) :=
  ⟨World.ownsMap_made _ _ _ _, tidy_empty, fun _ => rfl, fun _ _ h => by cases h⟩

theorem MapF.update {w : World} {mb n : Nat} {F : List UInt8 → Option Nat} {D : DataW Value} (h : MapF w mb n F D) (s : ByteArray) (hs : s.size ≤ 1000) (hn : n ≤ 1000000) (b : Nat) :
    ∃ w' D', (Instr.mapUpdate 59 (.map (some mb)) (.string s) (.pointer (some ⟨b, 0, none⟩))).run Tryd.prog w = .ok () w' ∧
      MapF w' mb (n + 1) (fun k => if k = s.data.toList then some b else F k) D' ∧ w.grownBy w' (some mb) := by
  obtain ⟨w', hrun, hown, hg⟩ := h.own.update keyed Tryd.underlying59 (by unfold maxLen; omega) (key_of s hs) (val := .pointer (some ⟨b, 0, none⟩)) (d := .held (.pointer (some ⟨b, 0, none⟩))) (ps := []) rfl
  have hk := keyed.key (key_of s hs)
  refine ⟨w', _, hrun, ⟨hown, h.tidy.put hk _, fun k => ?_, fun k b' hb z => ?_⟩, hg⟩
  · by_cases e : k = s.data.toList
    · subst e; rw [if_pos rfl, has_put_same h.tidy.isMap hk]; rfl
    · rw [if_neg e, has_put_other (by simpa using e)]; exact h.has k
  · by_cases e : k = s.data.toList
    · subst e
      rw [if_pos rfl] at hb
      rw [atKey_put_same h.tidy.isMap hk]
      cases hb; rfl
    · rw [if_neg e] at hb
      rw [atKey_put_other (by simpa using e)]; exact h.at_ k b' hb z

/-- A slice of n elements, its cells in a row. -/
def CSl (w : World) (v : Value) (n : Nat) (cs : List Value) : Prop :=
  (n = 0 ∧ ∃ a cap, v = .slice a 0 cap) ∨ ∃ b off cap, v = .slice (some ⟨b, off, none⟩) n cap ∧ ∀ (i : Nat) (u : Value), cs[i]? = some u → w.cell? ⟨b, off + i, none⟩ = some u
theorem CSl.ext {w w' : World} {v : Value} {n : Nat} {cs : List Value} (h : CSl w v n cs) (k : Ext w w') : CSl w' v n cs := by
  rcases h with h | ⟨b, off, cap, hv, hc⟩
  · exact Or.inl h
  · exact Or.inr ⟨b, off, cap, hv, fun i u hu => k.cellAt (hc i u hu)⟩
theorem CSl.shape {w : World} {v : Value} {n : Nat} {cs : List Value} (h : CSl w v n cs) : ∃ a cap, v = .slice a n cap := by
  rcases h with ⟨rfl, a, cap, rfl⟩ | ⟨b, off, cap, rfl, _⟩
  · exact ⟨_, _, rfl⟩
  · exact ⟨_, _, rfl⟩
theorem CSl.of_own {w : World} {base size : Nat} {e : TypeId} {v : Value} {n : Nat} {cs : List Value} (h : w.ownsRow base e size v n cs) : CSl w v n cs := by
  obtain ⟨h1, h2⟩ := h
  rcases h2 with ⟨hv, h0⟩ | ⟨g, cap, cur, hv, hb, hg, hnc, hcap, hsz, htk⟩
  · subst h0; exact Or.inl ⟨rfl, _, _, hv⟩
  · refine Or.inr ⟨g, 0, cap, hv, fun i u hu => ?_⟩
    have hlt := (List.getElem?_eq_some_iff.1 hu).1
    rw [← htk, List.getElem?_take, if_pos (by omega), Array.getElem?_toList] at hu
    rw [Nat.zero_add]
    simp only [World.cell?, hg, Option.isSome_none, Bool.false_eq_true, if_false]
    exact hu
theorem ownsRow_ext {w w' : World} {base size : Nat} {e : TypeId} {v : Value} {n : Nat} {cs : List Value} (h : w.ownsRow base e size v n cs) (k : Ext w w') : w'.ownsRow base e size v n cs := by
  obtain ⟨h1, h2⟩ := h
  refine ⟨h1, ?_⟩
  rcases h2 with h2 | ⟨g, cap, cur, hv, hg, hh, r⟩
  · exact Or.inl h2
  · exact Or.inr ⟨g, cap, cur, hv, hg, by rw [k.block (Array.getElem?_eq_some_iff.1 hh).1]; exact hh, r⟩

/-- Append of one element of any size onto a row of the call's own. -/
theorem wp_app {ops : Array Oper} {rest : List Oper} {o : Oper} {a : Act} {Q : Exit → Act → World → Prop} {w : World} (hgd : o.guard = none) (s x : Operand) (t e : TypeId)
    (ho : o.op = .call { callee := .builtin .append, args := #[s, x], argTypes := #[t, t] }) (ht : Tryd.prog.underlying t = some (.slice e)) {z : Value} {size bytes : Nat}
    (hinfo : (Tryd.prog.info? e).map (fun i => (i.zero, i.size, i.bytes)) = some (some z, size, bytes)) (hzs : z.cells.size = size) (hsz : 0 < size) (hby : bytes ≤ 1000)
    (base : Nat) (v : Value) (n : Nat) (cs news : List Value) (hs : a.eval s = v) (hown : w.ownsRow base e size v n cs) (ad : Addr) (hx : a.eval x = .slice (some ad) 1 1)
    (hl : news.length = size) (hc : ∀ j u, news[j]? = some u → w.cell? (ad.add j) = some u) (h1 : ∀ u ∈ news, u.oneCell' = true) (hlen : n ≤ 1000000) (hbase : base ≤ w.heap.size)
    (h : ∀ v' w', w'.ownsRow base e size v' (n + 1) (cs ++ news) → (∀ W, Ext W w → W.heap.size ≤ base → Ext W w') → wpList Tryd.prog ops Q rest (a.put o.dst v') w') : wpList Tryd.prog ops Q (o :: rest) a w := by
  obtain ⟨i0, hi, hz0, hz1, hz2⟩ := info_parts hinfo
  refine wpList_append_own w hgd s x t ho base e i0 z size bytes ht hi hz0 hz1 hz2 hzs hsz v n cs hs hown ad 1 1 news hx (by omega) hc h1 (by unfold maxLen; omega) ?_ hbase ?_
  · have := Nat.mul_le_mul (show n + 1 ≤ 1000001 by omega) hby
    omega
  · intro v' w' h1 h2 _
    exact h v' w' h1 fun W hW hb => Ext.grown hW hown h2 hb

/-- One new block's cells, as the law on append wants them. -/
theorem news_of (w : World) (cs : Array Value) (t : TypeId) : ∀ j u, cs.toList[j]? = some u → (w.alloc (.cells cs t)).cell? ((⟨w.heap.size, 0, none⟩ : Addr).add j) = some u := by
  intro j u hj
  have e : ((⟨w.heap.size, 0, none⟩ : Addr).add j) = ⟨w.heap.size, j, none⟩ := by
    simp only [Addr.add]; split
    · rename_i h; subst h; rfl
    · simp
  rw [e, World.cell?_alloc_new, ← Array.getElem?_toList]; exact hj

end Go.Proofs.YtleogddijlabdaaDoor
