/- plane.Near, walked. -/
import Derived.Test.YtleogddijlabdaaNearA
import Derived.Test.YtleogddijlabdaaApp
set_option linter.unusedSimpArgs false
set_option linter.unusedVariables false
namespace Go.Proofs.Ytleogddijlabdaa
open Go.RowKit Srt

/-- The numbers 0, 1, .. as they are appended. -/
def nats (k : Nat) : List Value := (List.range k).map fun i : Nat => Value.int .i64 (i : Int)
theorem nats_succ (k : Nat) : nats (k + 1) = nats k ++ [Value.int .i64 (k : Int)] := by simp [nats, List.range_succ]

/-- What Near answers, of places that may be and are not too many. -/
def NearV (w w' : World) (n : Nat) (K : Int → Int) (v : Value) : Prop :=
  (n = 0 ∧ v = .slice none 0 0) ∨ ∃ B cap g, 0 < n ∧ n ≤ cap ∧ w.heap.size ≤ B ∧ v = .slice (some ⟨B, 0, none⟩) n cap ∧ Row w' B n g ∧ Srt.Same (fun i => (i : Int)) g 0 n ∧ Srt.Sorted K g 0 n

def keyOf (x y : Int) (px py : Nat → Int) (i : Int) : Int := dist x y (px i.toNat) (py i.toNat)

def NearPost (w w' : World) (n : Nat) (x y : Int) (px py : Nat → Int) (e : Ending) : Prop :=
  Ext w w' ∧ ((chk x y && allChk px py n) = false ∧ e = .returned (.tuple #[.slice none 0 0, .int .i64 1]) ∨
    (chk x y && allChk px py n) = true ∧ 160 < n ∧ e = .returned (.tuple #[.slice none 0 0, .int .i64 2]) ∨
    (chk x y && allChk px py n) = true ∧ n ≤ 160 ∧ ∃ v, e = .returned (.tuple #[v, .int .i64 0]) ∧ NearV w w' n (keyOf x y px py) v)

theorem Places.shape {w : World} {v : Value} {n : Nat} {px py : Nat → Int} (h : Places w v n px py) : ∃ a cap, v = .slice a n cap := by
  rcases h with ⟨⟨a, cap, rfl⟩, rfl⟩ | ⟨pb, off, cap, rfl, _⟩
  · exact ⟨_, _, rfl⟩
  · exact ⟨_, _, rfl⟩

set_option maxHeartbeats 1000000 in
theorem Near_bad (x y : Int) (a : Option Addr) (n cap : Nat) (px py : Nat → Int) (w : World) (hn : n ≤ 140737488351232) (h : Places w (.slice a n cap) n px py) (hc : (chk x y && allChk px py n) = false) :
    Calls Try.prog 9 #[.agg #[.int .i64 x, .int .i64 y], .slice a n cap] w fun e w' => NearPost w w' n x y px py e := by
  have HP := Lib.hid h
  have HB := Lib.hid hc
  clear h
  have fin : ∀ w', Ext w w' → NearPost w w' n x y px py (.returned (.tuple #[.slice none 0 0, .int .i64 1])) := fun w' hx => ⟨hx, Or.inl ⟨hc, rfl⟩⟩
  have FIN := Lib.hid fin
  clear fin
  by_cases hk : chk x y = true
  · have hk2 : allChk px py n = false := by simpa [hk] using hc
    clear hc
    go_enter Try.func9, Try.ntmps9
    go_wp2_with fail
    refine (Check_any _ _ _).mono ?_
    rintro e w1 ⟨rfl, hx⟩
    rw [hk]
    have k0 := hx.cell_two1 0
    simp at k0
    have hxx : Ext w w1 := by (repeat' (first | exact Ext.refl _ | assumption | (apply Ext.after; assumption) | (refine Ext.alloc ?_ _) | (refine Ext.drew ?_) | (refine Ext.drewN ?_ _) | (refine Ext.setCell ?_ ?_ _) | (simp; done) | (simp; omega) | omega))
    go_wp2_with fail
    refine (ContainsFunc_all _ n px py _ hn (HP.out.ext hxx)).mono ?_
    rintro e w2 ⟨rfl, hx2⟩
    rw [hk2]
    have hx3 : Ext w w2 := hxx.trans hx2
    go_wp2_with fail
    go_ret2
    exact FIN.out _ hx3
  · have hk' : chk x y = false := by simpa using hk
    clear hc
    go_enter Try.func9, Try.ntmps9
    go_wp2_with fail
    refine (Check_any _ _ _).mono ?_
    rintro e w1 ⟨rfl, hx⟩
    rw [hk']
    have hxx : Ext w w1 := by (repeat' (first | exact Ext.refl _ | assumption | (apply Ext.after; assumption) | (refine Ext.alloc ?_ _) | (refine Ext.drew ?_) | (refine Ext.drewN ?_ _) | (refine Ext.setCell ?_ ?_ _) | (simp; done) | (simp; omega) | omega))
    go_wp2_with fail
    go_ret2
    exact FIN.out _ hxx

set_option maxHeartbeats 1000000 in
theorem Near_long (x y : Int) (a : Option Addr) (n cap : Nat) (px py : Nat → Int) (w : World) (hn : n ≤ 140737488351232) (h : Places w (.slice a n cap) n px py) (hk : chk x y = true) (hk2 : allChk px py n = true) (hl : 160 < n) :
    Calls Try.prog 9 #[.agg #[.int .i64 x, .int .i64 y], .slice a n cap] w fun e w' => NearPost w w' n x y px py e := by
  have HP := Lib.hid h
  clear h
  have FIN : Hid (∀ w', Ext w w' → NearPost w w' n x y px py (.returned (.tuple #[.slice none 0 0, .int .i64 2]))) := fun w' hx => ⟨hx, Or.inr (Or.inl ⟨by simp [hk, hk2], hl, rfl⟩)⟩
  go_enter Try.func9, Try.ntmps9
  go_wp2_with fail
  refine (Check_any _ _ _).mono ?_
  rintro e w1 ⟨rfl, hx⟩
  rw [hk]
  have k0 := hx.cell_two1 0
  simp at k0
  have hxx : Ext w w1 := by (repeat' (first | exact Ext.refl _ | assumption | (apply Ext.after; assumption) | (refine Ext.alloc ?_ _) | (refine Ext.drew ?_) | (refine Ext.drewN ?_ _) | (refine Ext.setCell ?_ ?_ _) | (simp; done) | (simp; omega) | omega))
  go_wp2_with fail
  refine (ContainsFunc_all _ n px py _ hn (HP.out.ext hxx)).mono ?_
  rintro e w2 ⟨rfl, hx2⟩
  rw [hk2]
  have hx3 : Ext w w2 := hxx.trans hx2
  have k1 := hx2.cellAt k0
  go_wp2_with fail
  go_ret2
  exact FIN.out _ hx3

theorem own_row {w : World} {base : Nat} {v : Value} {n : Nat} (h : w.ownsRow base 3 1 v n (nats n)) : (n = 0 ∧ v = .slice none 0 0) ∨ ∃ B cap, n ≤ cap ∧ base ≤ B ∧ v = .slice (some ⟨B, 0, none⟩) n cap ∧ Row w B n (fun i => (i : Int)) := by
  obtain ⟨h1, h2⟩ := h
  rcases h2 with ⟨hv, h0⟩ | ⟨g, cap, cur, hv, hb, hg, hnc, hcap, hsz, htk⟩
  · exact Or.inl ⟨h0, hv⟩
  · refine Or.inr ⟨g, cap, hnc, hb, hv, fun i hi => ?_⟩
    have e1 : cur[i]? = some (.int .i64 (i : Int)) := by
      have : (cur.toList.take (n * 1))[i]? = (nats n)[i]? := by rw [htk]
      rw [List.getElem?_take, if_pos (by omega)] at this
      rw [Array.getElem?_toList] at this
      rw [this]; simp [nats, List.getElem?_map, List.getElem?_range hi]
    constructor
    · simp only [World.cell?, hg]; exact e1
    · simp only [World.frozen?, hg]; simp

theorem NearEnv.mk' {w : World} {A L pb off n cap : Nat} {x y : Int} {px py : Nat → Int} (ax : w.cell? ⟨A, 0, none⟩ = some (.int .i64 x)) (ay : w.cell? ⟨A, 1, none⟩ = some (.int .i64 y))
    (sl : w.cell? ⟨L, 0, none⟩ = some (.slice (some ⟨pb, off, none⟩) n cap)) (h : PlRow w pb off n px py) : NearEnv w A L pb off n cap x y px py :=
  ⟨ax, ay, sl, fun i hi => (h i hi).1, fun i hi => (h i hi).2⟩

theorem NearEnv.but {w w' : World} {A L pb off n cap B : Nat} {x y : Int} {px py : Nat → Int} (h : NearEnv w A L pb off n cap x y px py) (k : ExtBut B w w') (hA : A ≠ B) (hL : L ≠ B) (hp : 0 < n → pb ≠ B) : NearEnv w' A L pb off n cap x y px py :=
  ⟨k.cellAt hA h.ax, k.cellAt hA h.ay, k.cellAt hL h.sl, fun i hi => k.cellAt (hp (by omega)) (h.cx i hi), fun i hi => k.cellAt (hp (by omega)) (h.cy i hi)⟩

theorem cmpAt_near {B A L pb off n cap : Nat} {x y : Int} {px py : Nat → Int} {w : World} (h : NearEnv w A L pb off n cap x y px py) (hn : n ≤ 1000) (hA : A ≠ B) (hL : L ≠ B) (hp : pb ≠ B) :
    CmpAt B w (fun v => 0 ≤ v ∧ v < n) (keyOf x y px py) (.pointer (some ⟨A, 0, none⟩)) (.pointer (some ⟨L, 0, none⟩)) := by
  intro w' k u v hu hv
  obtain ⟨i, rfl⟩ := Int.eq_ofNat_of_zero_le hu.1
  obtain ⟨j, rfl⟩ := Int.eq_ofNat_of_zero_le hv.1
  refine (near2_any A L pb off n cap x y px py i j (by omega) (by omega) hn w' (h.but k hA hL fun _ => hp)).mono fun e w1 ⟨he, hx⟩ => ⟨?_, hx⟩
  rw [he]; simp [keyOf]

set_option maxRecDepth 100000 in
set_option maxHeartbeats 1000000 in
theorem Near_good (x y : Int) (a : Option Addr) (n cap : Nat) (px py : Nat → Int) (w : World) (hn : n ≤ 160) (h : Places w (.slice a n cap) n px py) (hk : chk x y = true) (hk2 : allChk px py n = true) :
    Calls Try.prog 9 #[.agg #[.int .i64 x, .int .i64 y], .slice a n cap] w fun e w' => NearPost w w' n x y px py e := by
  have HP := Lib.hid h
  clear h
  obtain ⟨i0, hi, hz0, hz1, hz2⟩ := info_parts info_int
  have FIN : Hid (∀ w' v, Ext w w' → NearV w w' n (keyOf x y px py) v → NearPost w w' n x y px py (.returned (.tuple #[v, .int .i64 0]))) := fun w' v hx hv => ⟨hx, Or.inr (Or.inr ⟨by simp [hk, hk2], hn, v, rfl, hv⟩)⟩
  have hmf : ∀ (fn : Fn) (first cap : Array Value) (w : World), (Instr.makeFunc fn first cap).run Try.prog w = .ok (.func fn first cap) w := fun _ _ _ _ => rfl
  go_enter Try.func9, Try.ntmps9
  go_wp2_with fail
  refine (Check_any _ _ _).mono ?_
  rintro e w1 ⟨rfl, hx⟩
  rw [hk]
  have k0 := hx.cell_two1 0
  have a0 := hx.cell_two0 0
  have a1 := hx.cell_two0 1
  simp at k0 a0 a1
  have hxx : Ext w w1 := by (repeat' (first | exact Ext.refl _ | assumption | (apply Ext.after; assumption) | (refine Ext.alloc ?_ _) | (refine Ext.drew ?_) | (refine Ext.drewN ?_ _) | (refine Ext.setCell ?_ ?_ _) | (simp; done) | (simp; omega) | omega))
  have hz := hx.size
  simp at hz
  go_wp2_with fail
  refine (ContainsFunc_all _ n px py _ (by omega) (HP.out.ext hxx)).mono ?_
  rintro e w2 ⟨rfl, hx2⟩
  rw [hk2]
  have hx3 : Ext w w2 := hxx.trans hx2
  have k1 := hx2.cellAt k0
  have a2 := hx2.cellAt a0
  have a3 := hx2.cellAt a1
  have hz2' := hx2.size
  clear k0 a0 a1 hx hx2 hxx
  go_wp2_with fail
  go_loopw [6, 22, 7] (fun v iv xv wr => ∃ k : Nat, iv = .int .i64 k ∧ k ≤ n ∧ wr.ownsRow w2.heap.size 3 1 v k (nats k) ∧ Hid (k = 0 → v = .slice none 0 0) ∧ Ext w2 wr) (fun _ i _ _ => n - (intOf i).toNat)
  case atStart => exact ⟨0, rfl, Nat.zero_le _, ⟨rfl, Or.inl ⟨rfl, rfl⟩⟩, fun _ => rfl, Ext.refl _⟩
  case round =>
    obtain ⟨k, rfl, hkn, hown, hnil, hxr⟩ := hrel
    by_cases hlt : k < n
    · have HX := Lib.hid hxr
      clear hxr
      have hw := HX.out.size
      have c3 : k + 1 ≤ maxLen := by unfold maxLen; omega
      have c4 : (k + 1) * 8 ≤ 140737488355328 := by omega
      have c5 : w2.heap.size ≤ (wr.alloc (.cells #[.int .i64 (k : Int)] 3)).heap.size := by simp; omega
      have HC3 := Lib.hid c3
      have HC4 := Lib.hid c4
      have HC5 := Lib.hid c5
      clear c3 c4 c5
      go_wp2_with (at_builtin; refine wpList_append_own _ rfl _ _ 29 rfl w2.heap.size 3 i0 (.int .i64 0) 1 8 Try.underlying29 hi hz0 hz1 hz2 rfl (by decide) _ k _ rfl (hown.alloc _) ⟨wr.heap.size, 0, none⟩ 1 1 [.int .i64 (k : Int)] rfl rfl (cell_one_new _ _ _) (by simp [Value.oneCell']) HC3.out HC4.out HC5.out ?_; intro v' w3 hown' hgrow _)
      have hx4 : Ext w2 w3 := Ext.grown (HX.out.alloc _) hown hgrow (Nat.le_refl _)
      have hown2 : w3.ownsRow w2.heap.size 3 1 v' (k + 1) (nats (k + 1)) := by rw [nats_succ]; exact hown'
      clear hown hown' hgrow
      go_wp2_with fail
      go_roundw
      case rel => exact ⟨k + 1, by go_num, by omega, hown2, fun h0 => by omega, hx4⟩
      case measure => simp [intOf]; omega
    · obtain rfl : k = n := by omega
      by_cases hk0 : k = 0
      · subst hk0
        obtain rfl := hnil.out rfl
        have HX := Lib.hid (hx3.trans hxr)
        clear hxr hx3 hown
        go_wp2_with fail
        refine (sortStable_nil _ _).mono ?_
        rintro e w4 ⟨rfl, rfl⟩
        go_wp2_with fail
        go_ret2
        exact FIN.out _ _ HX.out (Or.inl ⟨rfl, rfl⟩)
      · rcases own_row hown with ⟨h0, _⟩ | ⟨B, bcap, hbc, hB, rfl, hrow⟩
        · omega
        · have HR := Lib.hid hrow
          have HX := Lib.hid hxr
          have hwb : w.heap.size ≤ B := by omega
          clear hrow hxr hown hnil
          obtain ⟨pb, off, cap', hv, hp⟩ : ∃ pb off cap', Value.slice a k cap = .slice (some ⟨pb, off, none⟩) k cap' ∧ PlRow w pb off k px py := by
            rcases HP.out with ⟨_, h0⟩ | h
            · omega
            · exact h
          cases hv
          have hpb : pb < w.heap.size := World.block_lt_of_cell? w _ (hp 0 (by omega)).1
          have hxw : Ext w wr := hx3.trans HX.out
          have henv : NearEnv wr w.heap.size (w.heap.size + 1) pb off k cap x y px py := NearEnv.mk' (HX.out.cellAt a2) (HX.out.cellAt a3) (HX.out.cellAt k1) (hp.ext hxw)
          have hcmp := cmpAt_near (B := B) henv (by omega) (by omega) (by omega) (by omega)
          have HC := Lib.hid hcmp
          have HXW := Lib.hid hxw
          clear hcmp henv hp hxw
          go_wp2_with fail
          refine (sortStable_any B k bcap (fun i => (i : Int)) _ _ _ (keyOf x y px py) _ HR.out (by omega) (fun p q h1 h2 => by omega) (fun p h1 => by omega) HC.out).mono ?_
          rintro e w4 ⟨rfl, g, hr4, hs4, ho4, hx4⟩
          have HN : Hid (NearV w w4 k (keyOf x y px py) (.slice (some ⟨B, 0, none⟩) k bcap)) := Or.inr ⟨B, bcap, g, by omega, hbc, hwb, rfl, hr4, hs4, ho4⟩
          have HX4 : Hid (Ext w w4) := hx4.ext HXW.out hwb
          clear hr4 hs4 ho4 hx4
          go_wp2_with fail
          go_ret2
          exact FIN.out _ _ HX4.out HN.out

theorem Near_any (x y : Int) (v : Value) (n : Nat) (px py : Nat → Int) (w : World) (hn : n ≤ 140737488351232) (h : Places w v n px py) :
    Calls Try.prog 9 #[.agg #[.int .i64 x, .int .i64 y], v] w fun e w' => NearPost w w' n x y px py e := by
  obtain ⟨a, cap, rfl⟩ := h.shape
  cases hc : (chk x y && allChk px py n) with
  | false => exact Near_bad x y a n cap px py w hn h hc
  | true =>
    obtain ⟨h1, h2⟩ := Bool.and_eq_true_iff.1 hc
    by_cases hl : n ≤ 160
    · exact Near_good x y a n cap px py w hl h h1 h2
    · exact Near_long x y a n cap px py w hn h h1 h2 (by omega)

end Go.Proofs.Ytleogddijlabdaa
