/- The document's Near, walked. -/
import Derived.Test.YtleogddijlabdaaRefA
import Derived.Test.YtleogddijlabdaaNearB
set_option linter.unusedSimpArgs false
set_option linter.unusedVariables false
namespace Go.Proofs.Ytleogddijlabdaa
open Go.RowKit

theorem OwnI.isl {w : World} {base : Nat} {v : Value} {xs : List Int} (h : OwnI w base v xs) : ISl w v xs := ISl.of_own h
/-- The state of an insertion into a list. -/
structure InsL (K : Int → Int) (out next : List Int) (i : Int) (k : Nat) (put : Bool) : Prop where
  no : put = false → next = out.take k ∧ ∀ x ∈ out.take k, ¬ K i < K x
  yes : put = true → next.Pairwise (Srt.LT K) ∧ (∀ v, v ∈ next ↔ v = i ∨ v ∈ out.take k) ∧ (∃ p, p < k ∧ p < out.length ∧ K i < K (out.getD p 0)) ∧ next.length = k + 1

theorem getD_mem {xs : List Int} {k : Nat} (h : k < xs.length) : xs.getD k 0 ∈ xs := by
  rw [List.getD_eq_getElem?_getD, List.getElem?_eq_getElem h]; exact List.getElem_mem h
theorem take_snoc' {xs : List Int} {k : Nat} (h : k < xs.length) : xs.take (k + 1) = xs.take k ++ [xs.getD k 0] := by
  rw [List.take_succ_eq_append_getElem h, List.getD_eq_getElem?_getD, List.getElem?_eq_getElem h]; rfl
theorem pw_snoc {K : Int → Int} {xs : List Int} {x : Int} (h : xs.Pairwise (Srt.LT K)) (hx : ∀ y ∈ xs, Srt.LT K y x) : (xs ++ [x]).Pairwise (Srt.LT K) := by
  rw [List.pairwise_append]; exact ⟨h, List.pairwise_singleton _ _, fun a ha b hb => by rw [List.mem_singleton.1 hb]; exact hx a ha⟩
theorem pw_take {K : Int → Int} {xs : List Int} (h : xs.Pairwise (Srt.LT K)) {k : Nat} (hk : k < xs.length) : ∀ y ∈ xs.take k, Srt.LT K y (xs.getD k 0) := by
  have h1 : (xs.take (k + 1)).Pairwise (Srt.LT K) := h.sublist (List.take_sublist _ _)
  rw [take_snoc' hk, List.pairwise_append] at h1
  exact fun y hy => h1.2.2 y hy _ (by simp)
theorem pw_get {K : Int → Int} {xs : List Int} (h : xs.Pairwise (Srt.LT K)) {p k : Nat} (hp : p < k) (hk : k < xs.length) : Srt.LT K (xs.getD p 0) (xs.getD k 0) := by
  refine pw_take h hk _ ?_
  have : xs.getD p 0 = (xs.take k).getD p 0 := by
    rw [List.getD_eq_getElem?_getD, List.getD_eq_getElem?_getD, List.getElem?_take, if_pos hp]
  rw [this]; exact getD_mem (by rw [List.length_take]; omega)

section
variable {K : Int → Int} {out next : List Int} {i : Int} {k : Nat}
theorem InsL.begin : InsL K out [] i 0 false := ⟨fun _ => ⟨rfl, fun x hx => by simp at hx⟩, fun h => by simp at h⟩
theorem InsL.len {put : Bool} (h : InsL K out next i k put) (hk : k ≤ out.length) : next.length ≤ k + 1 := by
  cases put with
  | false => rw [(h.no rfl).1, List.length_take]; omega
  | true => have := (h.yes rfl).2.2.2; omega
/-- It goes in here. -/
theorem InsL.here (h : InsL K out next i k false) (hs : out.Pairwise (Srt.LT K)) (hm : ∀ v ∈ out, v < i) (hk : k < out.length) (hlt : K i < K (out.getD k 0)) : InsL K out (next ++ [i] ++ [out.getD k 0]) i (k + 1) true := by
  obtain ⟨h1, h2⟩ := h.no rfl
  refine ⟨fun h => by simp at h, fun _ => ⟨?_, fun v => ?_, ⟨k, by omega, hk, hlt⟩, ?_⟩⟩
  · subst h1
    have a : ∀ y ∈ out.take k, Srt.LT K y i := fun y hy => by
      have := h2 y hy; have := hm y (List.mem_of_mem_take hy); unfold Srt.LT; omega
    refine pw_snoc (pw_snoc (hs.sublist (List.take_sublist _ _)) a) fun y hy => ?_
    rw [List.mem_append] at hy
    rcases hy with hy | hy
    · exact pw_take hs hk y hy
    · rw [List.mem_singleton.1 hy]; exact Or.inl hlt
  · subst h1; rw [take_snoc' hk]; simp only [List.mem_append, List.mem_singleton]
    constructor
    · rintro ((h | h) | h)
      · exact Or.inr (Or.inl h)
      · exact Or.inl h
      · exact Or.inr (Or.inr h)
    · rintro (h | h | h)
      · exact Or.inl (Or.inr h)
      · exact Or.inl (Or.inl h)
      · exact Or.inr h
  · subst h1; simp [List.length_take]; omega
/-- It does not go in here. -/
theorem InsL.skip (h : InsL K out next i k false) (hk : k < out.length) (hlt : ¬ K i < K (out.getD k 0)) : InsL K out (next ++ [out.getD k 0]) i (k + 1) false := by
  obtain ⟨h1, h2⟩ := h.no rfl
  refine ⟨fun _ => ⟨by rw [h1, take_snoc' hk], fun x hx => ?_⟩, fun h => by simp at h⟩
  rw [take_snoc' hk, List.mem_append] at hx
  rcases hx with hx | hx
  · exact h2 x hx
  · rw [List.mem_singleton.1 hx]; exact hlt
/-- It is in. -/
theorem InsL.on (h : InsL K out next i k true) (hs : out.Pairwise (Srt.LT K)) (hk : k < out.length) : InsL K out (next ++ [out.getD k 0]) i (k + 1) true := by
  obtain ⟨h1, h2, ⟨p, p1, p2, p3⟩, h4⟩ := h.yes rfl
  refine ⟨fun h => by simp at h, fun _ => ⟨pw_snoc h1 fun y hy => ?_, fun v => ?_, ⟨p, by omega, p2, p3⟩, by simp [h4]⟩⟩
  · rcases (h2 y).1 hy with e | e
    · subst e
      have := pw_get hs p1 hk
      unfold Srt.LT at this ⊢; omega
    · exact pw_take hs hk y e
  · rw [take_snoc' hk, List.mem_append, List.mem_append, h2 v, or_assoc]
/-- At the end. -/
theorem InsL.fin_no (h : InsL K out next i out.length false) (hs : out.Pairwise (Srt.LT K)) (hm : ∀ v ∈ out, v < i) : (next ++ [i]).Pairwise (Srt.LT K) ∧ (∀ v, v ∈ next ++ [i] ↔ v = i ∨ v ∈ out) ∧ (next ++ [i]).length = out.length + 1 := by
  obtain ⟨h1, h2⟩ := h.no rfl
  rw [List.take_of_length_le (Nat.le_refl _)] at h1 h2
  subst h1
  exact ⟨pw_snoc hs fun y hy => by have := h2 y hy; have := hm y hy; unfold Srt.LT; omega, fun v => by rw [List.mem_append, List.mem_singleton, or_comm], by simp⟩
theorem InsL.fin_yes (h : InsL K out next i out.length true) : next.Pairwise (Srt.LT K) ∧ (∀ v, v ∈ next ↔ v = i ∨ v ∈ out) ∧ next.length = out.length + 1 := by
  obtain ⟨h1, h2, _, h4⟩ := h.yes rfl
  rw [List.take_of_length_le (Nat.le_refl _)] at h2
  exact ⟨h1, h2, h4⟩
end

/-- Sorted, and just the numbers below n. -/
def Sorted0 (K : Int → Int) (n : Nat) (xs : List Int) : Prop := xs.Pairwise (Srt.LT K) ∧ (∀ v, v ∈ xs ↔ 0 ≤ v ∧ v < n) ∧ xs.length = n

set_option maxHeartbeats 1000000 in
theorem rDist_no (x y u v : Int) (h : (chk x y && chk u v) = false) (w : World) :
    Calls Try.prog 21 #[.agg #[.int .i64 x, .int .i64 y], .agg #[.int .i64 u, .int .i64 v]] w fun e w' => e = .returned (.int .i64 (-1)) ∧ Ext w w' := by
  by_cases h1 : chk x y = true
  · have h2 : chk u v = false := by simpa [h1] using h
    clear h
    go_enter Try.func21, Try.ntmps21
    go_wp2_with fail
    refine (rCheck_any _ _ _).mono ?_
    rintro e w1 ⟨rfl, hx⟩
    rw [h1]
    have k2 := hx.cell_two1 0
    have k3 := hx.cell_two1 1
    simp at k2 k3
    have kx : Ext w w1 := by (repeat' (first | exact Ext.refl _ | assumption | (apply Ext.after; assumption) | (refine Ext.alloc ?_ _) | (refine Ext.drew ?_) | (refine Ext.drewN ?_ _) | (refine Ext.setCell ?_ ?_ _) | (simp; done) | (simp; omega) | omega))
    go_wp2_with fail
    refine (rCheck_any _ _ _).mono ?_
    rintro e w2 ⟨rfl, hx2⟩
    rw [h2]
    have lx : Ext w w2 := kx.trans hx2
    go_wp2_with fail
    go_ret
    exact ⟨rfl, lx⟩
  · have h1' : chk x y = false := by simpa using h1
    clear h
    go_enter Try.func21, Try.ntmps21
    go_wp2_with fail
    refine (rCheck_any _ _ _).mono ?_
    rintro e w1 ⟨rfl, hx⟩
    rw [h1']
    have kx : Ext w w1 := by (repeat' (first | exact Ext.refl _ | assumption | (apply Ext.after; assumption) | (refine Ext.alloc ?_ _) | (refine Ext.drew ?_) | (refine Ext.drewN ?_ _) | (refine Ext.setCell ?_ ?_ _) | (simp; done) | (simp; omega) | omega))
    go_wp2_with fail
    go_ret
    exact ⟨rfl, kx⟩

theorem rDist_any (x y u v : Int) (w : World) :
    Calls Try.prog 21 #[.agg #[.int .i64 x, .int .i64 y], .agg #[.int .i64 u, .int .i64 v]] w fun e w' => e = .returned (.int .i64 (dist x y u v)) ∧ Ext w w' := by
  unfold dist
  by_cases hb : (chk x y && chk u v) = true
  · rw [if_pos hb]
    have := Bool.and_eq_true_iff.1 hb
    exact rDist_yes x y u v this.1 this.2 w
  · rw [if_neg hb]
    exact rDist_no x y u v (by simpa using hb) w

theorem ISl.shape {w : World} {v : Value} {xs : List Int} (h : ISl w v xs) : ∃ a cap, v = .slice a xs.length cap := by
  rcases h with ⟨rfl, rfl⟩ | ⟨b, off, cap, rfl, _⟩
  · exact ⟨_, _, rfl⟩
  · exact ⟨_, _, rfl⟩
theorem ISl.at {w : World} {a : Option Addr} {n cap : Nat} {xs : List Int} (h : ISl w (.slice a n cap) xs) {k : Nat} (hk : k < xs.length) : ∃ b off, a = some ⟨b, off, none⟩ ∧ w.cell? ⟨b, off + k, none⟩ = some (.int .i64 (xs.getD k 0)) := by
  rcases h with ⟨h1, rfl⟩ | ⟨b, off, cap', hv, hc⟩
  · simp at hk
  · cases hv; exact ⟨b, off, rfl, hc k hk⟩

def RNearPost (w w' : World) (n : Nat) (x y : Int) (px py : Nat → Int) (e : Ending) : Prop :=
  Ext w w' ∧ ((chk x y && allChk px py n) = false ∧ e = .returned (.tuple #[.slice none 0 0, .int .i64 1]) ∨
    (chk x y && allChk px py n) = true ∧ 160 < n ∧ e = .returned (.tuple #[.slice none 0 0, .int .i64 2]) ∨
    (chk x y && allChk px py n) = true ∧ n ≤ 160 ∧ ∃ v xs, e = .returned (.tuple #[v, .int .i64 0]) ∧ ISl w' v xs ∧ Sorted0 (keyOf x y px py) n xs)

set_option maxHeartbeats 1000000 in
theorem RNear_no (x y : Int) (v : Value) (n : Nat) (px py : Nat → Int) (w : World) (hc : chk x y = false) :
    Calls Try.prog 10 #[.agg #[.int .i64 x, .int .i64 y], v] w fun e w' => RNearPost w w' n x y px py e := by
  have FIN : Hid (∀ w', Ext w w' → RNearPost w w' n x y px py (.returned (.tuple #[.slice none 0 0, .int .i64 1]))) := fun w' hx => ⟨hx, Or.inl ⟨by simp [hc], rfl⟩⟩
  go_enter Try.func10, Try.ntmps10
  go_wp2_with fail
  refine (rCheck_any _ _ _).mono ?_
  rintro e w1 ⟨rfl, hx⟩
  rw [hc]
  have hxx : Ext w w1 := by (repeat' (first | exact Ext.refl _ | assumption | (apply Ext.after; assumption) | (refine Ext.alloc ?_ _) | (refine Ext.drew ?_) | (refine Ext.drewN ?_ _) | (refine Ext.setCell ?_ ?_ _) | (simp; done) | (simp; omega) | omega))
  go_wp2_with fail
  go_ret2
  exact FIN.out _ hxx

def ChkRel (w : World) (n : Nat) (px py : Nat → Int) (iv : Value) (wr : World) : Prop :=
  ∃ i : Nat, iv = .int .i64 i ∧ i ≤ n ∧ allChk px py i = true ∧ Ext w wr

def OutRel (w : World) (n : Nat) (K : Int → Int) (v iv : Value) (wr : World) : Prop :=
  ∃ (i : Nat) (xs : List Int), iv = .int .i64 i ∧ i ≤ n ∧ ISl wr v xs ∧ Sorted0 K i xs ∧ Ext w wr

def InRel (w0 : World) (K : Int → Int) (i : Nat) (xs : List Int) (nv pv kv : Value) (wr : World) : Prop :=
  ∃ (k : Nat) (put : Bool) (next : List Int), kv = .int .i64 k ∧ pv = .bool put ∧ k ≤ xs.length ∧ OwnI wr w0.heap.size nv next ∧ InsL K xs next i k put ∧ Ext w0 wr

set_option maxRecDepth 100000 in
set_option maxHeartbeats 4000000 in
theorem RNear_pos (x y : Int) (pb off n cap : Nat) (px py : Nat → Int) (w : World) (hn0 : 0 < n) (hn : n ≤ 1000) (h : PlRow w pb off n px py) (hc : chk x y = true) :
    Calls Try.prog 10 #[.agg #[.int .i64 x, .int .i64 y], .slice (some ⟨pb, off, none⟩) n cap] w fun e w' => RNearPost w w' n x y px py e := by
  have HP := Lib.hid h
  clear h
  obtain ⟨i0, hi, hz0, hz1, hz2⟩ := info_parts info_int
  have FIN1 : Hid (∀ w', Ext w w' → allChk px py n = false → RNearPost w w' n x y px py (.returned (.tuple #[.slice none 0 0, .int .i64 1]))) := fun w' hx h => ⟨hx, Or.inl ⟨by simp [h], rfl⟩⟩
  have FIN2 : Hid (∀ w', Ext w w' → allChk px py n = true → 160 < n → RNearPost w w' n x y px py (.returned (.tuple #[.slice none 0 0, .int .i64 2]))) := fun w' hx h hl => ⟨hx, Or.inr (Or.inl ⟨by simp [h, hc], hl, rfl⟩)⟩
  have FIN3 : Hid (∀ w' v xs, Ext w w' → allChk px py n = true → n ≤ 160 → ISl w' v xs → Sorted0 (keyOf x y px py) n xs → RNearPost w w' n x y px py (.returned (.tuple #[v, .int .i64 0]))) := fun w' v xs hx h hl h1 h2 => ⟨hx, Or.inr (Or.inr ⟨by simp [h, hc], hl, v, xs, rfl, h1, h2⟩)⟩
  go_enter Try.func10, Try.ntmps10
  go_wp2_with fail
  refine (rCheck_any _ _ _).mono ?_
  rintro e w1 ⟨rfl, hx⟩
  rw [hc]
  have k0 := hx.cell_one 0
  have k1 := hx.cell_one 1
  simp at k0 k1
  have hxx : Ext w w1 := by (repeat' (first | exact Ext.refl _ | assumption | (apply Ext.after; assumption) | (refine Ext.alloc ?_ _) | (refine Ext.drew ?_) | (refine Ext.drewN ?_ _) | (refine Ext.setCell ?_ ?_ _) | (simp; done) | (simp; omega) | omega))
  have HXX := Lib.hid hxx
  clear hx hxx
  go_wp2_with fail
  go_loopw [6] (fun iv wr => ChkRel w1 n px py iv wr) (fun i _ => n - (intOf i).toNat)
  case atStart => exact ⟨0, rfl, Nat.zero_le _, rfl, Ext.refl _⟩
  case round =>
    obtain ⟨i, rfl, hin, hall, hxr⟩ := hrel
    have HA := Lib.hid hall
    clear hall
    by_cases hlt : i < n
    · obtain ⟨c1, c2⟩ := HP.out.ext (HXX.out.trans hxr) i hlt
      go_wp2_with fail
      refine (rCheck_any _ _ _).mono ?_
      rintro e w2 ⟨rfl, hx2⟩
      have hx3 : Ext w1 w2 := hxr.trans hx2
      by_cases hk : chk (px i) (py i) = true
      · rw [hk]
        have hk := Lib.hid hk
        go_wp2_with fail
        go_roundw
        case rel =>
          unfold ChkRel
          exact ⟨i + 1, by go_num, by omega, by simp only [allChk]; rw [HA.out, hk.out]; rfl, hx3⟩
        case measure => simp [intOf]; omega
      · rw [show chk (px i) (py i) = false from by simpa using hk]
        have hk := Lib.hid hk
        have hx4 : Ext w w2 := HXX.out.trans hx3
        go_wp2_with fail
        go_ret2
        refine FIN1.out _ hx4 ?_
        cases hall : allChk px py n with
        | false => rfl
        | true => exact absurd (allChk_iff.1 hall i hlt) hk.out
    · obtain rfl : n = i := by omega
      have hx4 : Ext w wr := HXX.out.trans hxr
      have HX4 := Lib.hid hx4
      by_cases hl : 160 < n
      · clear hx4
        go_wp2_with fail
        go_ret2
        exact FIN2.out _ HX4.out HA.out hl
      · have m0 := hxr.cellAt k0
        have m1 := hxr.cellAt k1
        have hl' : decide (160 < (n : Int)) = false := by simp; omega
        clear k0 k1 hxr hx4
        go_wp2_with fail
        obtain ⟨wo, rfl⟩ : ∃ wo : World, wo = wr := ⟨_, rfl⟩
        go_loopw [7, 8, 9, 10, 11] (fun v iv _ _ _ wr => OutRel wo n (keyOf x y px py) v iv wr) (fun _ i _ _ _ _ => n - (intOf i).toNat)
        case atStart => exact ⟨0, [], rfl, Nat.zero_le _, Or.inl ⟨rfl, rfl⟩, ⟨List.Pairwise.nil, fun v => by simp <;> omega, rfl⟩, Ext.refl _⟩
        case round =>
          obtain ⟨i, xs, rfl, hin, hisl, hsrt, hxo⟩ := hrel
          have HS := Lib.hid hsrt
          have HI := Lib.hid hisl
          have HXO := Lib.hid hxo
          obtain ⟨a, cp, hv⟩ := hisl.shape
          rw [hsrt.2.2] at hv
          subst hv
          have hxl : xs.length ≤ i := by rw [hsrt.2.2]; omega
          have hxl2 : i ≤ xs.length := by rw [hsrt.2.2]; omega
          clear hsrt hisl hxo
          by_cases hlt : i < n
          · go_wp2_with fail
            obtain ⟨wi, rfl⟩ : ∃ wi : World, wi = wr := ⟨_, rfl⟩
            have n0 := HXO.out.cellAt m0
            have n1 := HXO.out.cellAt m1
            have hpr := HP.out.ext (HX4.out.trans HXO.out)
            have HPR := Lib.hid hpr
            have hsz : w.heap.size < wi.heap.size := World.block_lt_of_cell? wi _ n0
            clear hpr
            go_loopw [9, 10, 11] (fun nv pv kv wr => InRel wi (keyOf x y px py) i xs nv pv kv wr) (fun _ _ k _ => xs.length - (intOf k).toNat)
            case atStart => exact ⟨0, false, [], rfl, rfl, Nat.zero_le _, OwnI.nil _ _, InsL.begin, Ext.refl _⟩
            case round =>
              obtain ⟨k, put, next, rfl, rfl, hk, hown, hins, hxi⟩ := hrel
              have HO := Lib.hid hown
              have HN := Lib.hid hins
              have HXI := Lib.hid hxi
              have hnl := hins.len hk
              clear hown hins hxi
              by_cases hki : k < i
              · have hkd : decide (k < i) = true := by simpa using hki
                obtain ⟨ob, oo, rfl, ocell⟩ := HI.out.at (k := k) (by omega)
                have oc := HXI.out.cellAt ocell
                have hxk := (HS.out.2.1 (xs.getD k 0)).1 (getD_mem (by omega))
                have i1 : (0 : Int) ≤ (k : Int) := by omega
                have i2 : (k : Int) < (i : Int) := by omega
                cases put with
                | true =>
                  clear ocell
                  go_wp2_with fail
                  go_quiet (fail)
                  go_wp2_with (at_builtin; refine wp_app_int rfl _ _ rfl wi.heap.size _ next rfl (HO.out.ext (by (repeat' (first | exact Ext.refl _ | assumption | (apply Ext.after; assumption) | (refine Ext.alloc ?_ _) | (refine Ext.drew ?_) | (refine Ext.drewN ?_ _) | (refine Ext.setCell ?_ ?_ _) | (simp; done) | (simp; omega) | omega)))) (xs.getD k 0) _ rfl (World.cell?_alloc_new _ _ _ _) (by omega) (by have := HXI.out.size; simp; omega) ?_; intro v' w3 hown' hext)
                  have hx3 : Ext wi w3 := hext _ (by have := HXI.out; (repeat' (first | exact Ext.refl _ | assumption | (apply Ext.after; assumption) | (refine Ext.alloc ?_ _) | (refine Ext.drew ?_) | (refine Ext.drewN ?_ _) | (refine Ext.setCell ?_ ?_ _) | (simp; done) | (simp; omega) | omega))) (Nat.le_refl _)
                  go_wp2_with fail
                  go_roundw
                  case rel =>
                    unfold InRel
                    exact ⟨k + 1, true, _, by go_num, rfl, by omega, hown', HN.out.on HS.out.1 (by omega), hx3⟩
                  case measure => simp [intOf]; omega
                | false =>
                  obtain ⟨m, hm⟩ : ∃ m : Nat, xs.getD k 0 = (m : Int) := Int.eq_ofNat_of_zero_le hxk.1
                  have hmi : m < i := by have := hxk.2; rw [hm] at this; omega
                  rw [hm] at oc
                  have HM := Lib.hid hm
                  obtain ⟨ci1, ci2⟩ := HPR.out i hlt
                  obtain ⟨cm1, cm2⟩ := HPR.out m (by omega)
                  have r0 : ∀ w', Ext wr w' → w'.cell? ⟨w.heap.size, 0, none⟩ = some (.int .i64 x) := fun w' q => q.cellAt (HXI.out.cellAt n0)
                  have r1 : ∀ w', Ext wr w' → w'.cell? ⟨w.heap.size, 1, none⟩ = some (.int .i64 y) := fun w' q => q.cellAt (HXI.out.cellAt n1)
                  have r2 : ∀ w', Ext wr w' → w'.cell? ⟨pb, off + i * 2, none⟩ = some (.int .i64 (px i)) := fun w' q => q.cellAt (HXI.out.cellAt ci1)
                  have r3 : ∀ w', Ext wr w' → w'.cell? ⟨pb, off + i * 2 + 1, none⟩ = some (.int .i64 (py i)) := fun w' q => q.cellAt (HXI.out.cellAt ci2)
                  have r4 : ∀ w', Ext wr w' → w'.cell? ⟨pb, off + m * 2, none⟩ = some (.int .i64 (px m)) := fun w' q => q.cellAt (HXI.out.cellAt cm1)
                  have r5 : ∀ w', Ext wr w' → w'.cell? ⟨pb, off + m * 2 + 1, none⟩ = some (.int .i64 (py m)) := fun w' q => q.cellAt (HXI.out.cellAt cm2)
                  have r6 : ∀ w', Ext wr w' → w'.cell? ⟨ob, oo + k, none⟩ = some (.int .i64 (m : Int)) := fun w' q => q.cellAt oc
                  have kk := Ext.refl wr
                  have i3 : (0 : Int) ≤ (i : Int) := by omega
                  have i4 : (i : Int) < (n : Int) := by omega
                  have i5 : (0 : Int) ≤ (m : Int) := by omega
                  have i6 : (m : Int) < (n : Int) := by omega
                  have hkey : Hid (keyOf x y px py (i : Int) = dist x y (px i) (py i) ∧ keyOf x y px py (xs.getD k 0) = dist x y (px m) (py m)) := by rw [HM.out]; exact ⟨rfl, rfl⟩
                  have HOC := Lib.hid ocell
                  clear ocell hm hxk ci1 ci2 cm1 cm2
                  by_cases hd : dist x y (px i) (py i) < dist x y (px m) (py m)
                  · have hd2 : decide (dist x y (px i) (py i) < dist x y (px m) (py m)) = true := by simpa using hd
                    have HD := Lib.hid hd
                    clear hd
                    go_wp2_with fail
                    go_region_held3 (fun w' => Ext wr w')
                      ((first | assumption | ((repeat' (first | exact Ext.refl _ | assumption | (apply Ext.after; assumption) | (refine Ext.alloc ?_ _) | (refine Ext.drew ?_) | (refine Ext.drewN ?_ _) | (refine Ext.setCell ?_ ?_ _) | (simp; done) | (simp; omega) | omega)); done)))
                      ((first | (go_at_call 21; refine (rDist_any _ _ _ _ _).mono ?_; rintro e w2 ⟨rfl, hx2⟩)))
                    have hxx : Ext wr w2 := by (repeat' (first | exact Ext.refl _ | assumption | (apply Ext.after; assumption) | (refine Ext.alloc ?_ _) | (refine Ext.drew ?_) | (refine Ext.drewN ?_ _) | (refine Ext.setCell ?_ ?_ _) | (simp; done) | (simp; omega) | omega))
                    clear r0 r1 r2 r3 r4 r5 hx2
                    have tok1 : True := trivial
                    have hl3 : (next ++ [(i : Int)]).length ≤ 1000000 := by rw [List.length_append, List.length_singleton]; omega
                    have HL3 := Lib.hid hl3
                    have ho0 : ob < wi.heap.size := World.block_lt_of_cell? wi _ HOC.out
                    have hw2 : wi.heap.size ≤ w2.heap.size := (HXI.out.trans hxx).size
                    have HX2 := Lib.hid (HXI.out.trans hxx)
                    clear hl3 hxx
                    go_wp2_with (first
                      | (at_builtin; have _t := tok1; refine wp_app_int rfl _ _ rfl wi.heap.size _ next rfl (HO.out.ext (by have := HX2; (repeat' (first | exact Ext.refl _ | assumption | (apply Ext.after; assumption) | (refine Ext.alloc ?_ _) | (refine Ext.drew ?_) | (refine Ext.drewN ?_ _) | (refine Ext.setCell ?_ ?_ _) | (simp; done) | (simp; omega) | omega)))) (i : Int) _ rfl (World.cell?_alloc_new _ _ _ _) (by omega) (by simp; omega) ?_; intro v' w3 hown' hext; have HX3 := Lib.hid (hext wi (HX2.out.alloc _) (Nat.le_refl _)); have hw3 := HX3.out.size; have oc3 := HX3.out.cellAt HOC.out; rw [HM.out] at oc3; clear tok1 _t hext)
                      | (at_builtin; refine wp_app_int rfl _ _ rfl wi.heap.size _ (next ++ [(i : Int)]) rfl (hown'.alloc _) (m : Int) _ rfl (World.cell?_alloc_new _ _ _ _) HL3.out (by simp; omega) ?_; intro v4 w4 hown4 hext4))
                    have hx5 : Ext wi w4 := hext4 _ (HX3.out.alloc _) (Nat.le_refl _)
                    go_wp2_with fail
                    go_roundw
                    case rel =>
                      unfold InRel
                      refine ⟨k + 1, true, _, by go_num, rfl, by omega, hown4, ?_, hx5⟩
                      rw [← HM.out]
                      exact HN.out.here HS.out.1 (fun v hv => ((HS.out.2.1 v).1 hv).2) (by omega) (by rw [hkey.out.1, hkey.out.2]; exact HD.out)
                    case measure => simp [intOf]; omega
                  · have hd2 : decide (dist x y (px i) (py i) < dist x y (px m) (py m)) = false := by simpa using hd
                    have HD := Lib.hid hd
                    clear hd
                    go_wp2_with fail
                    go_region_held3 (fun w' => Ext wr w')
                      ((first | assumption | ((repeat' (first | exact Ext.refl _ | assumption | (apply Ext.after; assumption) | (refine Ext.alloc ?_ _) | (refine Ext.drew ?_) | (refine Ext.drewN ?_ _) | (refine Ext.setCell ?_ ?_ _) | (simp; done) | (simp; omega) | omega)); done)))
                      ((first | (go_at_call 21; refine (rDist_any _ _ _ _ _).mono ?_; rintro e w2 ⟨rfl, hx2⟩)))
                    have hxx : Ext wr w2 := by (repeat' (first | exact Ext.refl _ | assumption | (apply Ext.after; assumption) | (refine Ext.alloc ?_ _) | (refine Ext.drew ?_) | (refine Ext.drewN ?_ _) | (refine Ext.setCell ?_ ?_ _) | (simp; done) | (simp; omega) | omega))
                    have oc2 := r6 _ hxx
                    clear r0 r1 r2 r3 r4 r5 r6 hx2
                    have hw2 : wi.heap.size ≤ w2.heap.size := (HXI.out.trans hxx).size
                    have HX2 := Lib.hid (HXI.out.trans hxx)
                    have HXX2 := Lib.hid hxx
                    clear hxx
                    go_wp2_with (at_builtin; refine wp_app_int rfl _ _ rfl wi.heap.size _ next rfl (HO.out.ext (HXX2.out.alloc _)) (m : Int) _ rfl (World.cell?_alloc_new _ _ _ _) (by omega) (by simp; omega) ?_; intro v' w3 hown' hext)
                    have hx3 : Ext wi w3 := hext _ (HX2.out.alloc _) (Nat.le_refl _)
                    go_wp2_with fail
                    go_roundw
                    case rel =>
                      unfold InRel
                      refine ⟨k + 1, false, _, by go_num, rfl, by omega, hown', ?_, hx3⟩
                      rw [← HM.out]
                      exact HN.out.skip (by omega) (by have := HD.out; rw [hkey.out.1, hkey.out.2]; omega)
                    case measure => simp [intOf]; omega
              · have hkd : decide (k < i) = false := by simpa using hki
                obtain rfl : k = xs.length := by omega
                have hnl2 : next.length ≤ 1000000 := by omega
                have hwi := HXI.out.size
                cases put with
                | true =>
                  go_wp2_with fail
                  go_roundw
                  case rel =>
                    unfold OutRel
                    have hf := HN.out.fin_yes
                    refine ⟨i + 1, next, by go_num, by omega, HO.out.isl, ⟨hf.1, fun v => ?_, by rw [hf.2.2]; omega⟩, HXO.out.trans HXI.out⟩
                    rw [hf.2.1 v, HS.out.2.1 v]; omega
                  case measure => simp [intOf]; omega
                | false =>
                  go_wp2_with (at_builtin; refine wp_app_int rfl _ _ rfl wi.heap.size _ next rfl (HO.out.alloc _) (i : Int) _ rfl (World.cell?_alloc_new _ _ _ _) (by omega) (by simp; omega) ?_; intro v' w3 hown' hext)
                  have hx3 : Ext wi w3 := hext _ (HXI.out.alloc _) (Nat.le_refl _)
                  go_wp2_with fail
                  go_roundw
                  case rel =>
                    unfold OutRel
                    have hf := HN.out.fin_no HS.out.1 (fun v hv => ((HS.out.2.1 v).1 hv).2)
                    refine ⟨i + 1, _, by go_num, by omega, hown'.isl, ⟨hf.1, fun v => ?_, by rw [hf.2.2]; omega⟩, HXO.out.trans hx3⟩
                    rw [hf.2.1 v, HS.out.2.1 v]; omega
                  case measure => simp [intOf]; omega
          · obtain rfl : n = i := by omega
            have hx5 : Ext w wr := HX4.out.trans HXO.out
            go_wp2_with fail
            go_ret2
            exact FIN3.out _ _ xs hx5 HA.out (by omega) HI.out HS.out

theorem RNear_zero (x y : Int) (a : Option Addr) (cap : Nat) (px py : Nat → Int) (w : World) (hc : chk x y = true) :
    Calls Try.prog 10 #[.agg #[.int .i64 x, .int .i64 y], .slice a 0 cap] w fun e w' => RNearPost w w' 0 x y px py e := by
  have FIN : Hid (∀ w', Ext w w' → RNearPost w w' 0 x y px py (.returned (.tuple #[.slice none 0 0, .int .i64 0]))) := fun w' hx => ⟨hx, Or.inr (Or.inr ⟨by simp [hc, allChk], by omega, _, [], rfl, Or.inl ⟨rfl, rfl⟩, List.Pairwise.nil, fun v => by simp <;> omega, rfl⟩)⟩
  go_enter Try.func10, Try.ntmps10
  go_wp2_with fail
  refine (rCheck_any _ _ _).mono ?_
  rintro e w1 ⟨rfl, hx⟩
  rw [hc]
  have hxx : Ext w w1 := by (repeat' (first | exact Ext.refl _ | assumption | (apply Ext.after; assumption) | (refine Ext.alloc ?_ _) | (refine Ext.drew ?_) | (refine Ext.drewN ?_ _) | (refine Ext.setCell ?_ ?_ _) | (simp; done) | (simp; omega) | omega))
  clear hx
  go_wp2_with fail
  refine wp_loop_rounds 1 ?_
  rw [rounds_succ]
  go_wp2_with fail
  refine wp_loop_rounds 1 ?_
  rw [rounds_succ]
  go_wp2_with fail
  go_ret2
  exact FIN.out _ hxx

theorem RNear_any (x y : Int) (v : Value) (n : Nat) (px py : Nat → Int) (w : World) (hn : n ≤ 1000) (h : Places w v n px py) :
    Calls Try.prog 10 #[.agg #[.int .i64 x, .int .i64 y], v] w fun e w' => RNearPost w w' n x y px py e := by
  by_cases hc : chk x y = true
  · by_cases hn0 : n = 0
    · subst hn0
      obtain ⟨a, cap, rfl⟩ := h.shape
      exact RNear_zero x y a cap px py w hc
    · rcases h with ⟨_, h0⟩ | ⟨pb, off, cap, rfl, hp⟩
      · omega
      · exact RNear_pos x y pb off n cap px py w (by omega) hn hp hc
  · exact RNear_no x y v n px py w (by simpa using hc)

end Go.Proofs.Ytleogddijlabdaa
