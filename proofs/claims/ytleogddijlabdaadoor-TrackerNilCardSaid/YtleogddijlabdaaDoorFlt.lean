/- Whole numbers below 2^53 as float64 words: sums, differences and products of such are exact. -/
import Derived.Laws.FloatArith
import Derived.Laws.ComplexArith
set_option linter.unusedSimpArgs false
set_option linter.unusedVariables false
namespace Go.Proofs.YtleogddijlabdaaDoor
namespace Flt
open Ieee

/-- The word b stands for the whole number n. -/
def FI (b : Nat) (n : Int) : Prop :=
  ∃ (s : Bool) (k : Nat), double.read b = .number s (n.natAbs * 2 ^ k) (-(k : Int)) ∧ (n < 0 → s = true) ∧ (0 < n → s = false)

theorem leastPlace_double : double.leastPlace = -1074 := by decide
theorem binade_double : double.binade = 2 ^ 52 := rfl
theorem infRung_double : double.infRung = 2047 * 2 ^ 52 := by decide
theorem signWeight_double : double.signWeight = 2 ^ 63 := by decide

theorem cut_even_exact (neg : Bool) (a d n : Nat) (hn : n = a * 2 ^ d) (hd : d ≤ n.log2 + 2) : Toward.even.cut neg n d = a := by
  unfold Toward.cut
  have hm : min d (n.log2 + 2) = d := Nat.min_eq_left hd
  simp only [hm]
  have hg : (1 <<< d : Nat) = 2 ^ d := by rw [Nat.shiftLeft_eq, Nat.one_mul]
  have hp : 0 < 2 ^ d := Nat.two_pow_pos d
  have hq : n / 2 ^ d = a := by rw [hn]; exact Nat.mul_div_cancel _ hp
  have hr : n % 2 ^ d = 0 := by rw [hn]; exact Nat.mul_mod_left _ _
  simp only [hg, hq, hr]
  simp

theorem log2_mul_pow (a k : Nat) (h : a ≠ 0) : (a * 2 ^ k).log2 = a.log2 + k := by
  have hp : 0 < 2 ^ k := Nat.two_pow_pos k
  have hne : a * 2 ^ k ≠ 0 := Nat.mul_ne_zero h (by omega)
  rw [Nat.log2_eq_iff hne]
  have h1 := Nat.log2_self_le h
  have h2 : a < 2 ^ (a.log2 + 1) := Nat.lt_log2_self
  constructor
  · rw [Nat.pow_add]; exact Nat.mul_le_mul_right _ h1
  · rw [show a.log2 + k + 1 = (a.log2 + 1) + k from by omega, Nat.pow_add]; exact Nat.mul_lt_mul_of_pos_right h2 hp

theorem read_word (neg : Bool) (rung : Nat) (h : rung < 2 ^ 63) :
    (double.word neg rung) / 2 ^ 63 % 2 = (if neg then 1 else 0) ∧ (double.word neg rung) % 2 ^ 63 = rung := by
  unfold Format.word
  rw [signWeight_double]
  cases neg <;> simp <;> omega

theorem rung_min {L K : Nat} (hl : L ≤ 52) (hi : K < 2 ^ 53) : min ((L + 1022) * 2 ^ 52 + K) (2047 * 2 ^ 52) = (L + 1022) * 2 ^ 52 + K := by
  apply Nat.min_eq_left; omega

theorem read_at (neg : Bool) {R K q : Nat} {p : Int} (hr63 : R < 2 ^ 63) (q1 : 2 ^ 52 + R % 2 ^ 52 = K) (q2 : R / 2 ^ 52 - 1 = q) (g1 : ¬ R < 2 ^ 52) (g2 : R < 2047 * 2 ^ 52)
    (e4 : (-1074 + (q : Int)) = p) : double.read (double.word neg R) = .number neg K p := by
  obtain ⟨r1, r2⟩ := read_word neg _ hr63
  unfold Format.read
  rw [signWeight_double, binade_double, infRung_double, leastPlace_double]
  simp only [r1, r2]
  rw [if_neg g1, if_pos g2, q1, q2, e4]
  cases neg <;> rfl

theorem read_rung (neg : Bool) {L K : Nat} (hl : L ≤ 52) (lo : 2 ^ 52 ≤ K) (hi : K < 2 ^ 53) :
    double.read (double.word neg ((L + 1022) * 2 ^ 52 + K)) = .number neg K (-((52 - L : Nat) : Int)) :=
  read_at neg (q := L + 1022) (by omega) (by omega) (by omega) (by omega) (by omega) (by omega)

theorem write_exact (neg : Bool) (a k : Nat) (ha : a ≠ 0) (hlt : a < 2 ^ 53) :
    double.read (double.nearest neg (a * 2 ^ k) (-(k : Int))) = .number neg (a * 2 ^ (52 - a.log2)) (-((52 - a.log2 : Nat) : Int)) := by
  have hp : 0 < 2 ^ k := Nat.two_pow_pos k
  have hl : a.log2 ≤ 52 := by
    have := Nat.log2_lt ha (k := 53)
    have := this.2 hlt
    omega
  have hlog := log2_mul_pow a k ha
  have hne : a * 2 ^ k ≠ 0 := Nat.mul_ne_zero ha (by omega)
  unfold Format.nearest
  rw [if_neg hne, leastPlace_double, hlog]
  have hlast : max (-(k : Int) + ((a.log2 + k : Nat) : Int) - (double.fractionBits : Int)) (-1074) = (a.log2 : Int) - 52 := by
    have : double.fractionBits = 52 := rfl
    rw [this]; omega
  simp only [hlast]
  -- the significand
  have hkept : Toward.even.cut neg ((a * 2 ^ k) <<< (-(k : Int) - ((a.log2 : Int) - 52)).toNat) (((a.log2 : Int) - 52) - (-(k : Int))).toNat = a * 2 ^ (52 - a.log2) := by
    by_cases hk : k ≤ 52 - a.log2
    · have e1 : (-(k : Int) - ((a.log2 : Int) - 52)).toNat = 52 - a.log2 - k := by omega
      have e2 : (((a.log2 : Int) - 52) - (-(k : Int))).toNat = 0 := by omega
      rw [e1, e2]
      apply cut_even_exact
      · rw [Nat.shiftLeft_eq, Nat.mul_assoc, ← Nat.pow_add, show k + (52 - a.log2 - k) = 52 - a.log2 from by omega]; simp
      · omega
    · have e1 : (-(k : Int) - ((a.log2 : Int) - 52)).toNat = 0 := by omega
      have e2 : (((a.log2 : Int) - 52) - (-(k : Int))).toNat = k - (52 - a.log2) := by omega
      rw [e1, e2]
      apply cut_even_exact
      · rw [Nat.shiftLeft_eq, Nat.mul_assoc a, ← Nat.pow_add, Nat.mul_assoc, ← Nat.pow_add, show 52 - a.log2 + (k - (52 - a.log2)) = k from by omega]; simp
      · rw [Nat.shiftLeft_eq]; simp only [Nat.pow_zero, Nat.mul_one]; rw [hlog]; omega
  rw [hkept]
  have h1 := Nat.log2_self_le ha
  have h2 : a < 2 ^ (a.log2 + 1) := Nat.lt_log2_self
  have hp2 : 0 < 2 ^ (52 - a.log2) := Nat.two_pow_pos _
  have lo : 2 ^ 52 ≤ a * 2 ^ (52 - a.log2) := by
    have := Nat.mul_le_mul_right (2 ^ (52 - a.log2)) h1
    rw [← Nat.pow_add, show a.log2 + (52 - a.log2) = 52 from by omega] at this
    exact this
  have hi : a * 2 ^ (52 - a.log2) < 2 ^ 53 := by
    have := Nat.mul_lt_mul_of_pos_right h2 hp2
    rw [← Nat.pow_add, show a.log2 + 1 + (52 - a.log2) = 53 from by omega] at this
    exact this
  generalize a * 2 ^ (52 - a.log2) = K at *
  generalize a.log2 = L at *
  have eR : ((L : Int) - 52 - (-1074)).toNat = L + 1022 := by omega
  rw [eR, binade_double, infRung_double, rung_min hl hi, read_rung neg hl lo hi]

theorem read_zero (neg : Bool) (p : Int) : double.read (double.nearest neg 0 p) = .number neg 0 (-1074) := by
  unfold Format.nearest
  rw [if_pos rfl]
  obtain ⟨r1, r2⟩ := read_word neg 0 (by omega)
  unfold Format.read
  rw [signWeight_double, binade_double, infRung_double, leastPlace_double]
  simp only [r1, r2]
  cases neg <;> simp

/-- A number written is that number. -/
theorem FI_nearest (s : Bool) (n : Int) (k : Nat) (hlt : n.natAbs < 2 ^ 53) (h1 : n < 0 → s = true) (h2 : 0 < n → s = false) :
    FI (double.nearest s (n.natAbs * 2 ^ k) (-(k : Int))) n := by
  by_cases h : n.natAbs = 0
  · obtain ⟨p, hp⟩ : ∃ p : Nat, p = 1074 := ⟨_, rfl⟩
    refine ⟨s, p, ?_, h1, h2⟩
    rw [h, Nat.zero_mul, Nat.zero_mul, read_zero, hp]; rfl
  · exact ⟨s, 52 - n.natAbs.log2, write_exact s _ k h hlt, h1, h2⟩

theorem FI_ofInt (n : Int) (h : n.natAbs < 2 ^ 53) : FI (FloatKind.f64.nearest n) n := by
  have := FI_nearest (decide (n < 0)) n 0 h (by simp) (by simp; omega)
  simpa [FloatKind.nearest, FloatKind.encode, FloatKind.format, Format.write] using this

theorem signed_FI {s : Bool} {n : Int} (k i : Nat) (h1 : n < 0 → s = true) (h2 : 0 < n → s = false) : signed s (n.natAbs * 2 ^ k) i = n * 2 ^ (k + i) := by
  unfold signed
  have hn : (n.natAbs * 2 ^ k) <<< i = n.natAbs * 2 ^ (k + i) := by rw [Nat.shiftLeft_eq, Nat.mul_assoc, ← Nat.pow_add]
  rw [hn]
  rcases Int.lt_trichotomy n 0 with h | h | h
  · rw [h1 h]; simp only [if_true]
    have : (n.natAbs : Int) = -n := by omega
    rw [Int.natCast_mul, this, Int.neg_mul, Int.neg_neg]; simp
  · subst h; simp
  · rw [h2 h]; simp only [Bool.false_eq_true, if_false]
    have : (n.natAbs : Int) = n := by omega
    rw [Int.natCast_mul, this]; simp

theorem toInt_FI {b : Nat} {n : Int} (h : FI b n) : (FloatKind.f64.decode b).toInt .zero = some n := by
  obtain ⟨s, k, hr, h1, h2⟩ := h
  show (double.read b).toInt .zero = some n
  rw [hr]
  unfold Datum.toInt Datum.integral
  simp only
  have e1 : (-(k : Int)).toNat = 0 := by omega
  have e2 : (-(-(k : Int))).toNat = k := by omega
  rw [e1, e2, Nat.shiftLeft_zero]
  have hc : Toward.zero.cut s (n.natAbs * 2 ^ k) k = n.natAbs := by
    unfold Toward.cut
    have hp : 0 < 2 ^ k := Nat.two_pow_pos k
    by_cases hz : n.natAbs = 0
    · rw [hz]; simp
    · have hd : min k ((n.natAbs * 2 ^ k).log2 + 2) = k := by rw [log2_mul_pow _ _ hz]; omega
      simp only [hd]
      have hg : (1 <<< k : Nat) = 2 ^ k := by rw [Nat.shiftLeft_eq, Nat.one_mul]
      rw [hg, Nat.mul_div_cancel _ hp]; simp
  rw [hc]
  have := signed_FI (s := s) (n := n) 0 0 h1 h2
  simpa using this

theorem floatToIntVal_FI {b : Nat} {n : Int} (h : FI b n) (hlo : -9223372036854775808 ≤ n) (hhi : n ≤ 9223372036854775807) : floatToIntVal .f64 b .i64 = some n := by
  unfold floatToIntVal
  rw [toInt_FI h]
  simp only
  have e1 : IntKind.i64.min = -9223372036854775808 := by decide
  have e2 : IntKind.i64.max = 9223372036854775807 := by decide
  rw [e1, e2, if_pos ⟨hlo, hhi⟩]

theorem FI_sum_core {a b : Int} {s t : Bool} {k l : Nat} (ha1 : a < 0 → s = true) (ha2 : 0 < a → s = false) (hb1 : b < 0 → t = true) (hb2 : 0 < b → t = false) (hlt : (a + b).natAbs < 2 ^ 53) :
    ∃ r, ((Datum.number s (a.natAbs * 2 ^ k) (-(k : Int))).sum (.number t (b.natAbs * 2 ^ l) (-(l : Int)))).map double.write = some r ∧ FI r (a + b) := by
  unfold Datum.sum
  simp only [Option.map_some]
  refine ⟨_, rfl, ?_⟩
  have hb : min (-(k : Int)) (-(l : Int)) = -((max k l : Nat) : Int) := by omega
  rw [hb]
  have e1 : (-(k : Int) - -((max k l : Nat) : Int)).toNat = max k l - k := by omega
  have e2 : (-(l : Int) - -((max k l : Nat) : Int)).toNat = max k l - l := by omega
  rw [e1, e2, signed_FI k _ ha1 ha2, signed_FI l _ hb1 hb2]
  rw [show k + (max k l - k) = max k l from by omega, show l + (max k l - l) = max k l from by omega, ← Int.add_mul]
  generalize max k l = m
  have hpp : (0 : Int) < 2 ^ m := Int.pow_pos (by omega)
  have hna : ((a + b) * 2 ^ m).natAbs = (a + b).natAbs * 2 ^ m := by
    rw [Int.natAbs_mul, Int.natAbs_pow]; rfl
  rw [hna]
  show FI (double.nearest _ _ _) _
  refine FI_nearest _ _ _ hlt ?_ ?_
  · intro h
    have h3 : (a + b) * 2 ^ m < 0 := Int.mul_neg_of_neg_of_pos h hpp
    rw [if_neg (by omega)]; simpa using h3
  · intro h
    have h3 : 0 < (a + b) * 2 ^ m := Int.mul_pos h hpp
    rw [if_neg (by omega)]; simp; omega

theorem FI_add {x y : Nat} {a b : Int} (hx : FI x a) (hy : FI y b) (hlt : (a + b).natAbs < 2 ^ 53) : ∃ r, floatBits .add .f64 x y = some r ∧ FI r (a + b) := by
  obtain ⟨s, k, hr, h1, h2⟩ := hx
  obtain ⟨t, l, hr', h1', h2'⟩ := hy
  obtain ⟨r, e, f⟩ := FI_sum_core (k := k) (l := l) h1 h2 h1' h2' hlt
  refine ⟨r, ?_, f⟩
  show double.add x y = _
  unfold Format.add; rw [hr, hr']; exact e

theorem FI_sub {x y : Nat} {a b : Int} (hx : FI x a) (hy : FI y b) (hlt : (a - b).natAbs < 2 ^ 53) : ∃ r, floatBits .sub .f64 x y = some r ∧ FI r (a - b) := by
  obtain ⟨s, k, hr, h1, h2⟩ := hx
  obtain ⟨t, l, hr', h1', h2'⟩ := hy
  obtain ⟨r, e, f⟩ := FI_sum_core (k := k) (l := l) (t := !t) (b := -b) h1 h2 (by intro h; rw [h2' (by omega)]; rfl) (by intro h; rw [h1' (by omega)]; rfl) (by rw [← Int.sub_eq_add_neg]; exact hlt)
  refine ⟨r, ?_, by rw [Int.sub_eq_add_neg]; exact f⟩
  show double.sub x y = _
  unfold Format.sub; rw [hr, hr']
  simpa [Datum.opposite] using e

theorem FI_mul {x y : Nat} {a b : Int} (hx : FI x a) (hy : FI y b) (hlt : (a * b).natAbs < 2 ^ 53) : ∃ r, floatBits .mul .f64 x y = some r ∧ FI r (a * b) := by
  obtain ⟨s, k, hr, h1, h2⟩ := hx
  obtain ⟨t, l, hr', h1', h2'⟩ := hy
  refine ⟨double.nearest (s ^^ t) (a.natAbs * 2 ^ k * (b.natAbs * 2 ^ l)) (-(k : Int) + -(l : Int)), ?_, ?_⟩
  · show double.mul x y = _
    unfold Format.mul; rw [hr, hr']
    rfl
  · show FI (double.nearest _ _ _) _
    have e1 : a.natAbs * 2 ^ k * (b.natAbs * 2 ^ l) = (a * b).natAbs * 2 ^ (k + l) := by
      rw [Int.natAbs_mul, Nat.pow_add]; simp only [Nat.mul_assoc, Nat.mul_comm, Nat.mul_left_comm]
    have e2 : -(k : Int) + -(l : Int) = -((k + l : Nat) : Int) := by omega
    rw [e1, e2]
    refine FI_nearest _ _ _ hlt ?_ ?_
    · intro h
      rcases Int.lt_trichotomy a 0 with ha | ha | ha
      · rcases Int.lt_trichotomy b 0 with hb | hb | hb
        · have := Int.mul_pos_of_neg_of_neg ha hb; omega
        · subst hb; simp at h
        · rw [h1 ha, h2' hb]; rfl
      · subst ha; simp at h
      · rcases Int.lt_trichotomy b 0 with hb | hb | hb
        · rw [h2 ha, h1' hb]; rfl
        · subst hb; simp at h
        · have := Int.mul_pos ha hb; omega
    · intro h
      rcases Int.lt_trichotomy a 0 with ha | ha | ha
      · rcases Int.lt_trichotomy b 0 with hb | hb | hb
        · rw [h1 ha, h1' hb]; rfl
        · subst hb; simp at h
        · have := Int.mul_neg_of_neg_of_pos ha hb; omega
      · subst ha; simp at h
      · rcases Int.lt_trichotomy b 0 with hb | hb | hb
        · have := Int.mul_neg_of_pos_of_neg ha hb; omega
        · subst hb; simp at h
        · rw [h2 ha, h2' hb]; rfl

theorem read_neg (b : Nat) : double.read (Op.negFloat .f64 b) = (double.read b).opposite := by
  have e : Op.negFloat .f64 b = b ^^^ 2 ^ 63 := rfl
  have m : (b ^^^ 2 ^ 63) % 2 ^ 63 = b % 2 ^ 63 := by
    rw [Nat.xor_mod_two_pow]; simp
  have d : ((b ^^^ 2 ^ 63) / 2 ^ 63 % 2 == 1) = !(b / 2 ^ 63 % 2 == 1) := by
    have h1 := Nat.testBit_xor (x := b) (y := 2 ^ 63) (i := 63)
    rw [Nat.testBit_two_pow_self, Nat.testBit_eq_decide_div_mod_eq, Nat.testBit_eq_decide_div_mod_eq] at h1
    generalize (b ^^^ 2 ^ 63) / 2 ^ 63 % 2 = p at *
    generalize b / 2 ^ 63 % 2 = q at *
    rw [show (p == 1) = decide (p = 1) from by by_cases h : p = 1 <;> simp [h], show (q == 1) = decide (q = 1) from by by_cases h : q = 1 <;> simp [h]]
    simpa using h1
  unfold Format.read
  rw [e, signWeight_double, binade_double, infRung_double, leastPlace_double]
  simp only [m, d]
  split
  · rfl
  · split
    · rfl
    · split <;> rfl

theorem FI_neg {b : Nat} {n : Int} (h : FI b n) : FI (Op.negFloat .f64 b) (-n) := by
  obtain ⟨s, k, hr, h1, h2⟩ := h
  refine ⟨!s, k, ?_, ?_, ?_⟩
  · rw [read_neg, hr, Int.natAbs_neg]; rfl
  · intro h; rw [h2 (by omega)]; rfl
  · intro h; rw [h1 (by omega)]; rfl

theorem cSum_add {a b c d : Nat} {x y u v : Int} (ha : FI a x) (hb : FI b y) (hc : FI c u) (hd : FI d v) (h1 : (x + u).natAbs < 2 ^ 53) (h2 : (y + v).natAbs < 2 ^ 53) :
    ∃ r i, cSumBits .add .f64 a b c d = some (r, i) ∧ FI r (x + u) ∧ FI i (y + v) := by
  obtain ⟨r, e1, f1⟩ := FI_add ha hc h1
  obtain ⟨i, e2, f2⟩ := FI_add hb hd h2
  exact ⟨r, i, by simp [cSumBits, e1, e2], f1, f2⟩

theorem cSum_sub {a b c d : Nat} {x y u v : Int} (ha : FI a x) (hb : FI b y) (hc : FI c u) (hd : FI d v) (h1 : (x - u).natAbs < 2 ^ 53) (h2 : (y - v).natAbs < 2 ^ 53) :
    ∃ r i, cSumBits .sub .f64 a b c d = some (r, i) ∧ FI r (x - u) ∧ FI i (y - v) := by
  obtain ⟨r, e1, f1⟩ := FI_sub ha hc h1
  obtain ⟨i, e2, f2⟩ := FI_sub hb hd h2
  exact ⟨r, i, by simp [cSumBits, e1, e2], f1, f2⟩

theorem natAbs_mul_le {x u : Int} {m n : Nat} (h : x.natAbs ≤ m) (k : u.natAbs ≤ n) : (x * u).natAbs ≤ m * n := by
  rw [Int.natAbs_mul]; exact Nat.mul_le_mul h k

/-- The product of two whole complex numbers of parts up to 2^22 is exact. -/
theorem cMul {a b c d : Nat} {x y u v : Int} (ha : FI a x) (hb : FI b y) (hc : FI c u) (hd : FI d v)
    (hx : x.natAbs ≤ 4194304) (hy : y.natAbs ≤ 4194304) (hu : u.natAbs ≤ 4194304) (hv : v.natAbs ≤ 4194304) :
    ∃ r i, cMulBits a b c d = some (r, i) ∧ FI r (x * u - y * v) ∧ FI i (x * v + y * u) := by
  have m1 := natAbs_mul_le hx hu
  have m2 := natAbs_mul_le hy hv
  have m3 := natAbs_mul_le hx hv
  have m4 := natAbs_mul_le hy hu
  obtain ⟨p1, e1, f1⟩ := FI_mul ha hc (by omega)
  obtain ⟨p2, e2, f2⟩ := FI_mul hb hd (by omega)
  obtain ⟨p3, e3, f3⟩ := FI_mul ha hd (by omega)
  obtain ⟨p4, e4, f4⟩ := FI_mul hb hc (by omega)
  obtain ⟨r, e5, f5⟩ := FI_sub f1 f2 (by omega)
  obtain ⟨i, e6, f6⟩ := FI_add f3 f4 (by omega)
  exact ⟨r, i, by simp [cMulBits, e1, e2, e3, e4, e5, e6], f5, f6⟩

end Flt
end Go.Proofs.YtleogddijlabdaaDoor
