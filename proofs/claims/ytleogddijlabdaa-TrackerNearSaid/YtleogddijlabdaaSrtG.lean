/- Go's merge in place, and its stable sort. -/
import Derived.Test.YtleogddijlabdaaSrtF
set_option linter.unusedSimpArgs false
set_option linter.unusedVariables false
namespace Go.Proofs.Ytleogddijlabdaa
open Go.RowKit Srt

theorem symMerge_ih (B n cap : Nat) (p1 p2 : Value) (V : Int → Prop) (K : Int → Int) (hn : n ≤ 1000) : ∀ d, MergeIH B n cap p1 p2 V K d := by
  intro d
  induction d with
  | zero => intro f a m b w h; omega
  | succ d ih =>
    intro f a m b w hd hr h1 h2 h3 hh hV hc
    by_cases e1 : m ≤ a + 1
    · exact symMerge_left B n cap f a m b p1 p2 V K w hr (by omega) e1 h2 h3 hn hh hV hc
    · by_cases e2 : b ≤ m + 1
      · exact symMerge_right B n cap f a m b p1 p2 V K w hr (by omega) (by omega) e2 h3 hn hh hV hc
      · have ih' : MergeIH B n cap p1 p2 V K (b - a) := fun f a' m' b' w' hd' => ih f a' m' b' w' (by omega)
        by_cases e3 : (a + b) / 2 < m
        · exact symMerge_gen_hi B n cap f a m b ((a + b) / 2) p1 p2 V K w hr (by omega) (by omega) h3 hn (by omega) (by omega) e3 hh hV hc ih'
        · exact symMerge_gen_lo B n cap f a m b ((a + b) / 2) p1 p2 V K w hr (by omega) (by omega) h3 hn (by omega) (by omega) (by omega) hh hV hc ih'

theorem symMerge_any (B n cap : Nat) (p1 p2 : Value) (V : Int → Prop) (K : Int → Int) (hn : n ≤ 1000) (f : Nat → Int) (a m b : Nat) (w : World) (hr : Row w B n f) (h1 : a < m) (h2 : m < b) (h3 : b ≤ n) (hh : Halves K f a m b)
    (hV : ∀ p, a ≤ p → p < b → V (f p)) (hc : CmpAt B w V K p1 p2) :
    Calls Try.prog 51 #[.slice (some ⟨B, 0, none⟩) n cap, .int .i64 a, .int .i64 m, .int .i64 b, .func (.func 29) #[] #[p1, p2]] w fun e w' =>
      e = .returned (.tuple #[]) ∧ SortedRow w w' B n f a b K :=
  symMerge_ih B n cap p1 p2 V K hn (b - a + 1) f a m b w (by omega) hr h1 h2 h3 hh hV hc

theorem div_lt_of {k p q : Nat} (t : Nat) (h : p / (k * t) < q / (k * t)) : p / k < q / k := by
  rw [← Nat.div_div_eq_div_mul, ← Nat.div_div_eq_div_mul] at h
  exact Nat.lt_of_not_le fun h' => Nat.lt_irrefl _ (Nat.lt_of_lt_of_le h (Nat.div_le_div_right h'))

theorem div_block {k p j : Nat} (hk : 0 < k) : p / k = j ↔ j * k ≤ p ∧ p < j * k + k := by
  rw [Nat.div_eq_iff hk]
  constructor
  · rintro ⟨a, b⟩; exact ⟨a, by omega⟩
  · rintro ⟨a, b⟩; exact ⟨a, by omega⟩

/-- Blocks of k t are sorted up to c, blocks of k behind it; the numbers of each block are below those of the next one. -/
structure St (K : Int → Int) (f g : Nat → Int) (n k t c : Nat) : Prop where
  same : Same f g 0 n
  sep2 : ∀ p q, p < q → q < n → p / (k * t) < q / (k * t) → g p < g q
  srt2 : ∀ p q, p < q → q < c → p / (k * t) = q / (k * t) → LT K (g p) (g q)
  sep1 : ∀ p q, c ≤ p → p < q → q < n → p / k < q / k → g p < g q
  srt1 : ∀ p q, c ≤ p → p < q → q < n → p / k = q / k → LT K (g p) (g q)

theorem St.begin {K : Int → Int} {f : Nat → Int} {n t : Nat} (h : ∀ p q, p < q → q < n → f p < f q) : St K f f n 1 t 0 :=
  ⟨Same.refl _ _ _, fun p q h1 h2 _ => h p q h1 h2, fun p q _ h2 => by omega, fun p q _ h1 h2 _ => h p q h1 h2, fun p q _ h1 _ h3 => by rw [Nat.div_one, Nat.div_one] at h3; omega⟩

theorem St.next {K : Int → Int} {f g : Nat → Int} {n k t c : Nat} (h : St K f g n k t c) (hc : n ≤ c) (t' : Nat) : St K f g n (k * t) t' 0 :=
  ⟨h.same, fun p q h1 h2 h3 => h.sep2 p q h1 h2 (div_lt_of t' h3), fun p q _ h2 => by omega, fun p q _ h1 h2 h3 => h.sep2 p q h1 h2 h3, fun p q _ h1 h2 h3 => h.srt2 p q h1 (by omega) h3⟩

theorem St.step {K : Int → Int} {f g g' : Nat → Int} {n k t c e j : Nat} (h : St K f g n k t c) (hk : 0 < k * t) (hc : c = j * (k * t)) (hce : c ≤ e) (hen : e ≤ n) (he : e = c + k * t ∨ (e = n ∧ n ≤ c + k * t))
    (hs : Same g g' c e) (ho : Sorted K g' c e) : St K f g' n k t e := by
  have inb : ∀ p, c ≤ p → p < e → p / (k * t) = j := fun p h1 h2 => (div_block hk).2 ⟨by omega, by omega⟩
  have stay : ∀ p, p < n → ∃ q, q < n ∧ q / (k * t) = p / (k * t) ∧ g' p = g q := fun p hp => by
    by_cases b : c ≤ p ∧ p < e
    · obtain ⟨q, q1, q2, q3⟩ := hs.of p b.1 b.2
      exact ⟨q, by omega, by rw [inb q q1 q2, inb p b.1 b.2], q3⟩
    · exact ⟨p, hp, rfl, hs.out p (by omega)⟩
  refine ⟨h.same.trans (hs.mono (by omega) hen), fun p q h1 h2 h3 => ?_, fun p q h1 h2 h3 => ?_, fun p q h1 h2 h3 h4 => ?_, fun p q h1 h2 h3 h4 => ?_⟩
  · obtain ⟨p', a1, a2, a3⟩ := stay p (by omega)
    obtain ⟨q', b1, b2, b3⟩ := stay q h2
    rw [a3, b3]
    have hlt : p' / (k * t) < q' / (k * t) := by omega
    refine h.sep2 p' q' ?_ b1 hlt
    exact Nat.lt_of_not_le fun h' => Nat.lt_irrefl _ (Nat.lt_of_lt_of_le hlt (Nat.div_le_div_right h'))
  · by_cases hq : q < c
    · rw [hs.out p (by omega), hs.out q (by omega)]; exact h.srt2 p q h1 hq h3
    · have e1 := inb q (by omega) h2
      rw [e1] at h3
      have := ((div_block hk).1 h3).1
      exact ho p q (by omega) h1 h2
  · rw [hs.out p (by omega), hs.out q (by omega)]; exact h.sep1 p q (by omega) h2 h3 h4
  · rw [hs.out p (by omega), hs.out q (by omega)]; exact h.srt1 p q (by omega) h2 h3 h4

theorem St.one {K : Int → Int} {f g : Nat → Int} {n k t c i : Nat} (h : St K f g n k t c) (hk : 0 < k) (hc : c = i * k) (hn : n ≤ c + k) : Sorted K g c n := fun p q h1 h2 h3 =>
  h.srt1 p q h1 h2 h3 (by rw [(div_block (p := p) (j := i) hk).2 ⟨by omega, by omega⟩, (div_block (p := q) (j := i) hk).2 ⟨by omega, by omega⟩])

theorem St.halves {K : Int → Int} {f g : Nat → Int} {n k t c e i : Nat} (h : St K f g n k t c) (hk : 0 < k) (hc : c = i * k) (hen : e ≤ n) (hce : c + k ≤ e) (he : e ≤ c + 2 * k) : Halves K g c (c + k) e := by
  have a : ∀ p, c ≤ p → p < c + k → p / k = i := fun p h1 h2 => (div_block hk).2 ⟨by omega, by omega⟩
  have b : ∀ p, c + k ≤ p → p < e → p / k = i + 1 := fun p h1 h2 => (div_block hk).2 ⟨by rw [Nat.add_mul]; omega, by rw [Nat.add_mul]; omega⟩
  exact ⟨fun p q h1 h2 h3 => h.srt1 p q h1 h2 (by omega) (by rw [a p h1 (by omega), a q (by omega) h3]),
      fun p q h1 h2 h3 => h.srt1 p q (by omega) h2 (by omega) (by rw [b p h1 (by omega), b q (by omega) h3]),
      fun p q h1 h2 h3 h4 => h.sep1 p q h1 (by omega) (by omega) (by rw [a p h1 h2, b q h3 h4]; omega)⟩

theorem St.inc {K : Int → Int} {f g : Nat → Int} {n t c : Nat} (h : St K f g n 1 t c) : ∀ p q, c ≤ p → p < q → q < n → g p < g q := fun p q h1 h2 h3 =>
  h.sep1 p q h1 h2 h3 (by rw [Nat.div_one, Nat.div_one]; exact h2)

theorem Same.val {f g : Nat → Int} {n : Nat} {V : Int → Prop} (h : Same f g 0 n) (hV : ∀ p, p < n → V (f p)) : ∀ p, p < n → V (g p) := fun p hp => by
  obtain ⟨q, _, q2, q3⟩ := h.of p (Nat.zero_le _) hp
  rw [q3]; exact hV q q2

def StRel (w wr : World) (B n : Nat) (f : Nat → Int) (K : Int → Int) (k t c : Nat) : Prop := ∃ g, Row wr B n g ∧ St K f g n k t c ∧ ExtBut B w wr

def Inner1 (w : World) (B n : Nat) (f : Nat → Int) (K : Int → Int) (av bv : Value) (wr : World) : Prop :=
  ∃ j a : Nat, av = .int .i64 a ∧ bv = .int .i64 ((a : Int) + 20) ∧ Hid (a = j * (1 * 20)) ∧ a ≤ n ∧ StRel w wr B n f K 1 20 a

def Inner2 (w : World) (B n : Nat) (f : Nat → Int) (K : Int → Int) (k : Nat) (av bv : Value) (wr : World) : Prop :=
  ∃ j a : Nat, av = .int .i64 a ∧ bv = .int .i64 ((a : Int) + 2 * (k : Int)) ∧ Hid (a = j * (k * 2)) ∧ a ≤ n ∧ StRel w wr B n f K k 2 a

set_option maxRecDepth 100000 in
set_option maxHeartbeats 2000000 in
theorem stable_any (B n cap : Nat) (f : Nat → Int) (p1 p2 : Value) (V : Int → Prop) (K : Int → Int) (w : World) (hr : Row w B n f) (hn : n ≤ 1000)
    (hinc : ∀ p q, p < q → q < n → f p < f q) (hV : ∀ p, p < n → V (f p)) (hc : CmpAt B w V K p1 p2) :
    Calls Try.prog 44 #[.slice (some ⟨B, 0, none⟩) n cap, .int .i64 n, .func (.func 29) #[] #[p1, p2]] w fun e w' =>
      e = .returned (.tuple #[]) ∧ SortedRow w w' B n f 0 n K := by
  have hst : StRel w w B n f K 1 20 0 := ⟨f, hr, St.begin hinc, ExtBut.refl _ _⟩
  have HV := Lib.hid hV
  have HC := Lib.hid hc
  clear hr hinc hV hc
  go_enter Try.func44, Try.ntmps44
  go_wp2_with fail
  go_loopw [7, 8] (fun av bv wr => Inner1 w B n f K av bv wr) (fun a _ _ => n - (intOf a).toNat)
  case atStart => exact ⟨0, 0, rfl, rfl, by simp [Hid], Nat.zero_le _, hst⟩
  case round =>
    obtain ⟨j, a, rfl, rfl, ha, han, g, hrow, hst1, hx⟩ := hrel
    have HX := Lib.hid hx
    have HR := Lib.hid hrow
    have HS := Lib.hid hst1
    clear hst hx hrow hst1
    by_cases hlt : a + 20 ≤ n
    · have d1 : decide ((a : Int) + 20 ≤ (n : Int)) = true := by simp; omega
      have e1 : Hid (((a : Int) + 20) = ((a + 20 : Nat) : Int)) := by show _ = _; omega
      go_wp2_with fail
      rw [e1.out]
      refine (insertion_any B n cap g a (a + 20) p1 p2 V K _ HR.out (by omega) hlt hn (fun p q q1 q2 q3 => HS.out.inc p q q1 q2 (by omega)) (fun p q1 q2 => Same.val HS.out.same HV.out p (by omega)) (HC.out.mono HX.out)).mono ?_
      rintro e w1 ⟨rfl, g', hr1, hs1, ho1, hx1⟩
      rw [← e1.out]
      have HN : Hid (StRel w w1 B n f K 1 20 (a + 20)) := ⟨g', hr1, HS.out.step (by omega) ha.out (by omega) hlt (Or.inl (by omega)) hs1 ho1, HX.out.trans hx1⟩
      clear hr1 hs1 ho1 hx1
      go_wp2_with fail
      go_roundw
      case rel =>
        unfold Inner1
        exact ⟨j + 1, a + 20, by go_num, by go_num, by have := ha.out; unfold Hid; omega, hlt, HN.out⟩
      case measure => simp [intOf]; omega
    · have d1 : decide ((a : Int) + 20 ≤ (n : Int)) = false := by simp; omega
      go_wp2_with fail
      refine (insertion_any B n cap g a n p1 p2 V K _ HR.out (by omega) (Nat.le_refl _) hn (fun p q q1 q2 q3 => HS.out.inc p q q1 q2 (by omega)) (fun p q1 q2 => Same.val HS.out.same HV.out p (by omega)) (HC.out.mono HX.out)).mono ?_
      rintro e w1 ⟨rfl, g', hr1, hs1, ho1, hx1⟩
      have hN : StRel w w1 B n f K 20 2 0 := ⟨g', hr1, (HS.out.step (by omega) ha.out (by omega) (Nat.le_refl _) (Or.inr ⟨rfl, by omega⟩) hs1 ho1).next (Nat.le_refl _) 2, HX.out.trans hx1⟩
      clear hr1 hs1 ho1 hx1 HX HR HS
      go_wp2_with fail
      go_loopw [6, 7, 8, 9] (fun kv av bv mv wr => ∃ k : Nat, kv = .int .i64 k ∧ 1 ≤ k ∧ k ≤ 3000 ∧ StRel w wr B n f K k 2 0) (fun k _ _ _ _ => n - (intOf k).toNat)
      case atStart => exact ⟨20, rfl, by omega, by omega, hN⟩
      case round =>
        obtain ⟨k, rfl, k1, k2, hst⟩ := hrel
        clear hN
        by_cases hkn : k < n
        · have d2 : decide (k < n) = true := by simpa using hkn
          go_wp2_with fail
          obtain ⟨wo, rfl⟩ : ∃ wo : World, wo = wr := ⟨_, rfl⟩
          go_loopw [7, 8] (fun av bv wr => Inner2 w B n f K k av bv wr) (fun a _ _ => n - (intOf a).toNat)
          case atStart => exact ⟨0, 0, rfl, by go_num, by simp [Hid], Nat.zero_le _, hst⟩
          case round =>
            obtain ⟨j, a, rfl, rfl, ha, han, g, hrow, hst1, hx⟩ := hrel
            have HX := Lib.hid hx
            have HR := Lib.hid hrow
            have HS := Lib.hid hst1
            clear hst hx hrow hst1
            have e1 : Hid (((a : Int) + (k : Int)) = ((a + k : Nat) : Int)) := by show _ = _; omega
            have e2 : Hid (((a : Int) + 2 * (k : Int)) = ((a + 2 * k : Nat) : Int)) := by show _ = _; omega
            have ha2 : Hid (a = (2 * j) * k) := by have := ha.out; show a = _; rw [this, Nat.mul_comm k 2, ← Nat.mul_assoc, Nat.mul_comm j 2]
            by_cases hlt : a + 2 * k ≤ n
            · have d1 : decide ((a : Int) + 2 * (k : Int) ≤ (n : Int)) = true := by simp; omega
              go_wp2_with fail
              rw [e1.out, e2.out]
              refine (symMerge_any B n cap p1 p2 V K hn g a (a + k) (a + 2 * k) _ HR.out (by omega) (by omega) hlt (HS.out.halves (by omega) ha2.out hlt (by omega) (by omega)) (fun p q1 q2 => Same.val HS.out.same HV.out p (by omega)) (HC.out.mono HX.out)).mono ?_
              rintro e w1 ⟨rfl, g', hr1, hs1, ho1, hx1⟩
              rw [← e1.out, ← e2.out]
              have HN : Hid (StRel w w1 B n f K k 2 (a + 2 * k)) := ⟨g', hr1, HS.out.step (by omega) ha.out (by omega) hlt (Or.inl (by omega)) hs1 ho1, HX.out.trans hx1⟩
              clear hr1 hs1 ho1 hx1
              go_wp2_with fail
              go_roundw
              case rel =>
                unfold Inner2
                exact ⟨j + 1, a + 2 * k, by go_num, by go_num, by have := ha.out; show _ = _; rw [Nat.add_mul]; omega, hlt, HN.out⟩
              case measure => simp [intOf]; omega
            · have d1 : decide ((a : Int) + 2 * (k : Int) ≤ (n : Int)) = false := by simp; omega
              by_cases hm : a + k < n
              · have d3 : decide ((a : Int) + (k : Int) < (n : Int)) = true := by simp; omega
                go_wp2_with fail
                rw [e1.out]
                refine (symMerge_any B n cap p1 p2 V K hn g a (a + k) n _ HR.out (by omega) hm (Nat.le_refl _) (HS.out.halves (by omega) ha2.out (Nat.le_refl _) (by omega) (by omega)) (fun p q1 q2 => Same.val HS.out.same HV.out p (by omega)) (HC.out.mono HX.out)).mono ?_
                rintro e w1 ⟨rfl, g', hr1, hs1, ho1, hx1⟩
                rw [← e1.out]
                have HN : Hid (StRel w w1 B n f K (k * 2) 2 0) := ⟨g', hr1, (HS.out.step (by omega) ha.out (by omega) (Nat.le_refl _) (Or.inr ⟨rfl, by omega⟩) hs1 ho1).next (Nat.le_refl _) 2, HX.out.trans hx1⟩
                clear hr1 hs1 ho1 hx1
                go_wp2_with fail
                go_roundw
                case rel => exact ⟨k * 2, by go_num, by omega, by omega, HN.out⟩
                case measure => simp [intOf]; omega
              · have d3 : decide ((a : Int) + (k : Int) < (n : Int)) = false := by simp; omega
                have HN : Hid (StRel w wr B n f K (k * 2) 2 0) := ⟨g, HR.out, (HS.out.step (e := n) (by omega) ha.out (by omega) (Nat.le_refl _) (Or.inr ⟨rfl, by omega⟩) (Same.refl _ _ _) (HS.out.one (by omega) ha2.out (by omega))).next (Nat.le_refl _) 2, HX.out⟩
                go_wp2_with fail
                go_roundw
                case rel => exact ⟨k * 2, by go_num, by omega, by omega, HN.out⟩
                case measure => simp [intOf]; omega
        · have d2 : decide (k < n) = false := by simpa using hkn
          obtain ⟨g2, hr2, hs2, hx2⟩ := hst
          go_wp2_with fail
          go_end0
          exact ⟨rfl, g2, hr2, hs2.same, hs2.one (i := 0) (by omega) (by omega) (by omega), hx2⟩

end Go.Proofs.Ytleogddijlabdaa
