/- Plain: whole numbers below 2^53 as float64: sums are exact, comparing and cutting tell the number. No program in sight. -/
import Derived.Laws.FloatArith
set_option linter.unusedVariables false
namespace Go.Proofs.Ythhaannlbkgefaa
open Ieee

theorem log2_shift (m k : Nat) (h : 0 < m) : (m * 2 ^ k).log2 = m.log2 + k := by
  have hm : m ≠ 0 := by omega
  have h1 := (Nat.log2_eq_iff hm).1 rfl
  have hne : m * 2 ^ k ≠ 0 := Nat.mul_ne_zero hm (by have := Nat.two_pow_pos k; omega)
  rw [Nat.log2_eq_iff hne]
  constructor
  · rw [Nat.pow_add]; exact Nat.mul_le_mul_right _ h1.1
  · rw [show m.log2 + k + 1 = (m.log2 + 1) + k by omega, Nat.pow_add]
    exact Nat.mul_lt_mul_of_pos_right h1.2 (Nat.two_pow_pos k)
theorem log2_le (m : Nat) (h : 0 < m) (h1 : m < 2 ^ 53) : m.log2 ≤ 52 := by
  have hm : m ≠ 0 := by omega
  have h2 := (Nat.log2_eq_iff hm).1 rfl
  rcases Nat.lt_or_ge 52 m.log2 with h3 | h3
  · have : 2 ^ 53 ≤ 2 ^ m.log2 := Nat.pow_le_pow_right (by omega) h3
    omega
  · exact h3
/-- the significand -/
def sig (m : Nat) : Nat := m * 2 ^ (52 - m.log2)
theorem sig_range (m : Nat) (h : 0 < m) (h1 : m < 2 ^ 53) : 2 ^ 52 ≤ sig m ∧ sig m < 2 ^ 53 := by
  have hm : m ≠ 0 := by omega
  have hl := log2_le m h h1
  have h2 := (Nat.log2_eq_iff hm).1 rfl
  unfold sig
  constructor
  · have := Nat.mul_le_mul_right (2 ^ (52 - m.log2)) h2.1
    rw [← Nat.pow_add, show m.log2 + (52 - m.log2) = 52 by omega] at this
    exact this
  · have := Nat.mul_lt_mul_of_pos_right h2.2 (Nat.two_pow_pos (52 - m.log2))
    rw [← Nat.pow_add, show m.log2 + 1 + (52 - m.log2) = 53 by omega] at this
    exact this
def rung (m : Nat) : Nat := (m.log2 + 1022) * 2 ^ 52 + sig m
theorem cut_exact (neg : Bool) (q drop : Nat) (h : drop ≤ (q * 2 ^ drop).log2 + 2) : Toward.even.cut neg (q * 2 ^ drop) drop = q := by
  unfold Toward.cut
  rw [Nat.min_eq_left h, Nat.one_shiftLeft]
  have h0 : 0 < 2 ^ drop := Nat.two_pow_pos drop
  simp only [Nat.mul_div_cancel _ h0, Nat.mul_mod_left]
  have h1 : ¬ 2 ^ drop < 2 * 0 := by omega
  have h2 : (2 ^ drop == 2 * 0) = false := beq_eq_false_iff_ne.2 (by omega)
  simp [h1, h2]
theorem near (neg : Bool) (m k : Nat) (h0 : 0 < m) (h1 : m < 2 ^ 53) : double.nearest neg (m * 2 ^ k) (-(k : Int)) = double.word neg (rung m) := by
  have hl := log2_le m h0 h1
  have hs := sig_range m h0 h1
  have hne : m * 2 ^ k ≠ 0 := Nat.mul_ne_zero (by omega) (by have := Nat.two_pow_pos k; omega)
  unfold Format.nearest
  rw [if_neg hne, log2_shift m k h0]
  have hlast : max (-(k : Int) + ((m.log2 + k : Nat) : Int) - (double.fractionBits : Int)) double.leastPlace = (m.log2 : Int) - 52 := by
    have e1 : (double.fractionBits : Int) = 52 := rfl
    have e2 : double.leastPlace = -1074 := by decide
    rw [e1, e2]
    omega
  simp only [hlast]
  have e2 : double.leastPlace = -1074 := by decide
  rw [e2]
  have hlp : ((m.log2 : Int) - 52 - -1074).toNat = m.log2 + 1022 := by omega
  rw [hlp]
  have hkept : Toward.even.cut neg ((m * 2 ^ k) <<< (-(k : Int) - ((m.log2 : Int) - 52)).toNat) ((m.log2 : Int) - 52 - -(k : Int)).toNat = sig m := by
    by_cases hk : k ≤ 52 - m.log2
    · have e3 : (-(k : Int) - ((m.log2 : Int) - 52)).toNat = 52 - m.log2 - k := by omega
      have e4 : ((m.log2 : Int) - 52 - -(k : Int)).toNat = 0 := by omega
      rw [e3, e4, Nat.shiftLeft_eq, Nat.mul_assoc, ← Nat.pow_add, show k + (52 - m.log2 - k) = 52 - m.log2 by omega]
      have := cut_exact neg (sig m) 0 (by omega)
      rw [Nat.pow_zero, Nat.mul_one] at this
      exact this
    · have e3 : (-(k : Int) - ((m.log2 : Int) - 52)).toNat = 0 := by omega
      have e4 : ((m.log2 : Int) - 52 - -(k : Int)).toNat = k - (52 - m.log2) := by omega
      have e5 : m * 2 ^ k = sig m * 2 ^ (k - (52 - m.log2)) := by
        unfold sig
        rw [Nat.mul_assoc, ← Nat.pow_add, show 52 - m.log2 + (k - (52 - m.log2)) = k by omega]
      rw [e3, e4, Nat.shiftLeft_zero, e5]
      refine cut_exact neg (sig m) _ ?_
      rw [← e5, log2_shift m k h0]; omega
  rw [hkept]
  have eb : double.binade = 2 ^ 52 := rfl
  have ei : double.infRung = 2047 * 2 ^ 52 := by decide
  rw [eb, ei]
  have hmin : min ((m.log2 + 1022) * 2 ^ 52 + sig m) (2047 * 2 ^ 52) = (m.log2 + 1022) * 2 ^ 52 + sig m := by omega
  rw [hmin]
  rfl
theorem rung_lt (m : Nat) (h0 : 0 < m) (h1 : m < 2 ^ 53) : 2 ^ 52 ≤ rung m ∧ rung m < 1076 * 2 ^ 52 := by
  have hl := log2_le m h0 h1
  have hs := sig_range m h0 h1
  unfold rung
  omega
theorem read_word (neg : Bool) (m : Nat) (h0 : 0 < m) (h1 : m < 2 ^ 53) : double.read (double.word neg (rung m)) = .number neg (sig m) (-((52 - m.log2 : Nat) : Int)) := by
  have hl := log2_le m h0 h1
  have hs := sig_range m h0 h1
  have hr := rung_lt m h0 h1
  have esw : double.signWeight = 2 ^ 63 := by decide
  have eb : double.binade = 2 ^ 52 := rfl
  have ei : double.infRung = 2047 * 2 ^ 52 := by decide
  have el : double.leastPlace = -1074 := by decide
  have hneg : (double.word neg (rung m) / double.signWeight % 2 == 1) = neg := by
    unfold Format.word
    rw [esw]
    cases neg with
    | true =>
      simp only [if_true]
      have : (2 ^ 63 + rung m) / 2 ^ 63 = 1 := by omega
      rw [this]; rfl
    | false =>
      simp only [Bool.false_eq_true, if_false]
      have : rung m / 2 ^ 63 = 0 := by omega
      rw [this]; rfl
  have hmod : double.word neg (rung m) % double.signWeight = rung m := by
    unfold Format.word
    rw [esw]
    cases neg with
    | true => simp only [if_true]; omega
    | false => simp only [Bool.false_eq_true, if_false]; omega
  unfold Format.read
  simp only [hneg, hmod, eb, ei, el]
  rw [if_neg (by omega), if_pos (by omega)]
  have hd : rung m / 2 ^ 52 = m.log2 + 1023 := by unfold rung; omega
  have hm2 : rung m % 2 ^ 52 = sig m - 2 ^ 52 := by unfold rung; omega
  have ha : 2 ^ 52 + (sig m - 2 ^ 52) = sig m := by omega
  have hb : (-1074 : Int) + ((m.log2 + 1023 - 1 : Nat) : Int) = -((52 - m.log2 : Nat) : Int) := by omega
  rw [hd, hm2, ha, hb]

/-- the word of a whole number -/
def fW (v : Int) : Nat := FloatKind.nearest .f64 v
theorem fW_zero : fW 0 = 0 := by decide
theorem fW_eq (v : Int) : fW v = double.nearest (decide (v < 0)) v.natAbs 0 := by
  simp only [fW, FloatKind.nearest, FloatKind.encode, FloatKind.format, Format.write]
theorem fW_word (v : Int) (h0 : v ≠ 0) (h1 : v.natAbs < 2 ^ 53) : fW v = double.word (decide (v < 0)) (rung v.natAbs) := by
  have := near (decide (v < 0)) v.natAbs 0 (by omega) h1
  have e : (-((0 : Nat) : Int)) = 0 := by simp
  rw [Nat.pow_zero, Nat.mul_one, e] at this
  rw [fW_eq]
  exact this
/-- what a word stands for -/
theorem fW_read (v : Int) (h1 : v.natAbs < 2 ^ 53) : ∃ d : Nat, double.read (fW v) = .number (decide (v < 0)) (v.natAbs * 2 ^ d) (-(d : Int)) := by
  by_cases h0 : v = 0
  · subst h0
    obtain ⟨d, hd⟩ : ∃ d, d = 1074 := ⟨_, rfl⟩
    refine ⟨d, ?_⟩
    have e : (0 : Int).natAbs * 2 ^ d = 0 := Nat.zero_mul _
    rw [fW_zero, e]
    subst hd
    decide
  · refine ⟨52 - v.natAbs.log2, ?_⟩
    rw [fW_word v h0 h1, read_word _ _ (by omega) h1]
    rfl
theorem signed_is (v : Int) (d up : Nat) : signed (decide (v < 0)) (v.natAbs * 2 ^ d) up = v * (2 ^ (d + up) : Nat) := by
  unfold signed
  rw [Nat.shiftLeft_eq, Nat.mul_assoc, ← Nat.pow_add]
  by_cases h : v < 0
  · simp only [h, decide_true, if_true]
    rw [Int.natCast_mul, ← Int.neg_mul]
    congr 1
    omega
  · simp only [h, decide_false, Bool.false_eq_true, if_false]
    rw [Int.natCast_mul]
    congr 1
    omega
theorem fW_add (v w : Int) (h1 : v.natAbs < 2 ^ 53) (h2 : w.natAbs < 2 ^ 53) (h3 : (v + w).natAbs < 2 ^ 53) : double.add (fW v) (fW w) = some (fW (v + w)) := by
  obtain ⟨d, hd⟩ := fW_read v h1
  obtain ⟨e, he⟩ := fW_read w h2
  unfold Format.add
  rw [hd, he]
  unfold Datum.sum
  simp only [Option.map_some, Option.some.injEq]
  obtain ⟨M, hM⟩ : ∃ M, max d e = M := ⟨_, rfl⟩
  have hbase : min (-(d : Int)) (-(e : Int)) = -(M : Int) := by omega
  rw [hbase]
  have e1 : (-(d : Int) - -(M : Int)).toNat = M - d := by omega
  have e2 : (-(e : Int) - -(M : Int)).toNat = M - e := by omega
  rw [e1, e2, signed_is, signed_is, show d + (M - d) = M by omega, show e + (M - e) = M by omega, ← Int.add_mul]
  have hp : (0 : Int) < (2 ^ M : Nat) := by
    have : 0 < 2 ^ M := Nat.two_pow_pos M
    omega
  by_cases h0 : v + w = 0
  · have hst : (decide (v < 0) && decide (w < 0)) = false := by
      by_cases hv : v < 0
      · have hw : ¬ w < 0 := by omega
        simp [hw]
      · simp [hv]
    rw [h0, Int.zero_mul, fW_zero, if_pos rfl, hst]
    rfl
  · have hne : (v + w) * ((2 ^ M : Nat) : Int) ≠ 0 := Int.mul_ne_zero h0 (by omega)
    have hneg : decide ((v + w) * ((2 ^ M : Nat) : Int) < 0) = decide (v + w < 0) := by
      rw [decide_eq_decide]
      constructor
      · intro h
        rcases Int.lt_or_le (v + w) 0 with h4 | h4
        · exact h4
        · have := Int.mul_nonneg h4 (Int.le_of_lt hp); omega
      · intro h
        exact Int.mul_neg_of_neg_of_pos h hp
    rw [if_neg hne, hneg, Int.natAbs_mul, Int.natAbs_natCast]
    show double.nearest (decide (v + w < 0)) ((v + w).natAbs * 2 ^ M) (-(M : Int)) = _
    rw [near _ _ M (by omega) h3, fW_word _ h0 h3]
theorem fW_order (v w : Int) (h1 : v.natAbs < 2 ^ 53) (h2 : w.natAbs < 2 ^ 53) : double.order (fW v) (fW w) = some (compare v w) := by
  obtain ⟨d, hd⟩ := fW_read v h1
  obtain ⟨e, he⟩ := fW_read w h2
  unfold Format.order
  rw [hd, he]
  unfold Datum.order
  simp only [Option.some.injEq]
  obtain ⟨M, hM⟩ : ∃ M, max d e = M := ⟨_, rfl⟩
  have hbase : min (-(d : Int)) (-(e : Int)) = -(M : Int) := by omega
  rw [hbase]
  have e1 : (-(d : Int) - -(M : Int)).toNat = M - d := by omega
  have e2 : (-(e : Int) - -(M : Int)).toNat = M - e := by omega
  rw [e1, e2, signed_is, signed_is, show d + (M - d) = M by omega, show e + (M - e) = M by omega]
  have hp : (0 : Int) < (2 ^ M : Nat) := by
    have : 0 < 2 ^ M := Nat.two_pow_pos M
    omega
  have hlt : ∀ a b : Int, a * ((2 ^ M : Nat) : Int) < b * ((2 ^ M : Nat) : Int) ↔ a < b := fun a b => Int.mul_lt_mul_right hp
  have heq : ∀ a b : Int, a * ((2 ^ M : Nat) : Int) = b * ((2 ^ M : Nat) : Int) ↔ a = b := fun a b => Int.mul_eq_mul_right_iff (by omega)
  simp only [compare, compareOfLessAndEq, hlt, heq]
theorem fW_toInt (v : Int) (h1 : v.natAbs < 2 ^ 53) : (double.read (fW v)).toInt .zero = some v := by
  obtain ⟨d, hd⟩ := fW_read v h1
  rw [hd]
  unfold Datum.toInt Datum.integral
  simp only
  have e1 : (-(d : Int)).toNat = 0 := by omega
  have e2 : (- -(d : Int)).toNat = d := by omega
  rw [e1, e2, Nat.shiftLeft_zero]
  have hcut : Toward.zero.cut (decide (v < 0)) (v.natAbs * 2 ^ d) d = v.natAbs := by
    unfold Toward.cut
    simp only [Bool.toNat_false, Nat.add_zero]
    rw [Nat.one_shiftLeft]
    by_cases h0 : v = 0
    · subst h0; simp
    · rw [log2_shift _ _ (by omega), Nat.min_eq_left (by omega), Nat.mul_div_cancel _ (Nat.two_pow_pos d)]
  rw [hcut]
  have := signed_is v 0 0
  rw [Nat.pow_zero, Nat.mul_one] at this
  rw [this]
  simp
end Go.Proofs.Ythhaannlbkgefaa
