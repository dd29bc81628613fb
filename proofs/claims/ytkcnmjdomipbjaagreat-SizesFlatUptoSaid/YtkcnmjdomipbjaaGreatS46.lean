import Derived.Laws.FloatArith
import Derived.Test.YtkcnmjdomipbjaaGreatRows
import Derived.WalkLawsBesides
import Derived.Deep.RegionHeld3
import Derived.Outline
import Derived.Deep.QuietTactic
import Derived.BigQuiet
import Derived.Deep.MidRow
import Derived.BigRegion
import Derived.OwnWalk
import Derived.ProofKit
import Derived.JoinedCond
import Derived.Carry
import Derived.Test.YtkcnmjdomipbjaaGreatS43
import Derived.Test.YtkcnmjdomipbjaaGreatS45
set_option linter.unusedVariables false
set_option maxHeartbeats 100000000
set_option maxRecDepth 100000
namespace Go.Proofs.YtkcnmjdomipbjaaGreat
open Go.RowKit
section
open Ieee
theorem log2_shift (m k : Nat) (h : 0 < m) : (m * 2 ^ k).log2 = m.log2 + k := by
 have hm : m ≠ 0 := by omega
 have h1 := (Nat.log2_eq_iff hm).1 rfl
 have hne : m * 2 ^ k ≠ 0 := Nat.mul_ne_zero hm (by have := Nat.two_pow_pos k; omega)
 rw [Nat.log2_eq_iff hne]
 constructor
 ·rw [Nat.pow_add]; exact Nat.mul_le_mul_right _ h1.1
 rw [show m.log2 + k + 1 = (m.log2 + 1) + k by omega, Nat.pow_add]
 exact Nat.mul_lt_mul_of_pos_right h1.2 (Nat.two_pow_pos k)
theorem log2_le (m : Nat) (h : 0 < m) (h1 : m < 2 ^ 53) : m.log2 <= 52 := by
 have hm : m ≠ 0 := by omega
 have h2 := (Nat.log2_eq_iff hm).1 rfl
 rcases Nat.lt_or_ge 52 m.log2 with h3 | h3
 ·have : 2 ^ 53 <= 2 ^ m.log2 := Nat.pow_le_pow_right (by omega) h3;omega
 exact h3
def sig (m : Nat) : Nat := m * 2 ^ (52 - m.log2)
theorem sig_range (m : Nat) (h : 0 < m) (h1 : m < 2 ^ 53) : 2 ^ 52 <= sig m /\ sig m < 2 ^ 53 := by
 have hm : m ≠ 0 := by omega
 have hl := log2_le m h h1
 have h2 := (Nat.log2_eq_iff hm).1 rfl
 unfold sig
 constructor
 ·have := Nat.mul_le_mul_right (2 ^ (52 - m.log2)) h2.1;rw [<- Nat.pow_add, show m.log2 + (52 - m.log2) = 52 by omega] at this;exact this
 have := Nat.mul_lt_mul_of_pos_right h2.2 (Nat.two_pow_pos (52 - m.log2))
 rw [<- Nat.pow_add, show m.log2 + 1 + (52 - m.log2) = 53 by omega] at this
 exact this
def rung (m : Nat) : Nat := (m.log2 + 1022) * 2 ^ 52 + sig m
theorem cut_exact (neg : Bool) (q drop : Nat) (h : drop <= (q * 2 ^ drop).log2 + 2) : Toward.even.cut neg (q * 2 ^ drop) drop = q := by
 unfold Toward.cut
 rw [Nat.min_eq_left h, Nat.one_shiftLeft]
 have h0 : 0 < 2 ^ drop := Nat.two_pow_pos drop
 simp only [Nat.mul_div_cancel _ h0, Nat.mul_mod_left]
 have h1 : ¬ 2 ^ drop < 2 * 0 := by omega
 have h2 : (2 ^ drop == 2 * 0) = false := beq_eq_false_iff_ne.2 (by omega)
 simp [h1, h2]
theorem near (neg : Bool) (m k : Nat) (h0 : 0 < m) (h1 : m < 2 ^ 53) : double.nearest neg (m * 2 ^ k) (-(k : Int)) = double.word neg (rung m) := by
 have hl := log2_le m h0 h1
 have hs := sig_range m h0 h1
 have hne : m * 2 ^ k ≠ 0 := Nat.mul_ne_zero (by omega) (by have := Nat.two_pow_pos k; omega)
 unfold Format.nearest
 rw [if_neg hne, log2_shift m k h0]
 have hlast : max (-(k : Int) + ((m.log2 + k : Nat) : Int) - (double.fractionBits : Int)) double.leastPlace = (m.log2 : Int) - 52 := by
  have e1 : (double.fractionBits : Int) = 52 := rfl;have e2 : double.leastPlace = -1074 := by decide
  rw [e1, e2];omega
 simp only [hlast]
 have e2 : double.leastPlace = -1074 := by decide
 rw [e2]
 have hlp : ((m.log2 : Int) - 52 - -1074).toNat = m.log2 + 1022 := by omega
 rw [hlp]
 have hkept : Toward.even.cut neg ((m * 2 ^ k) <<< (-(k : Int) - ((m.log2 : Int) - 52)).toNat) ((m.log2 : Int) - 52 - -(k : Int)).toNat = sig m := by
  by_cases hk : k <= 52 - m.log2
  ·have e3 : (-(k : Int) - ((m.log2 : Int) - 52)).toNat = 52 - m.log2 - k := by omega
   have e4 : ((m.log2 : Int) - 52 - -(k : Int)).toNat = 0 := by omega
   rw [e3, e4, Nat.shiftLeft_eq, Nat.mul_assoc, <- Nat.pow_add, show k + (52 - m.log2 - k) = 52 - m.log2 by omega];have := cut_exact neg (sig m) 0 (by omega);rw [Nat.pow_zero, Nat.mul_one] at this;exact this
  have e3 : (-(k : Int) - ((m.log2 : Int) - 52)).toNat = 0 := by omega
  have e4 : ((m.log2 : Int) - 52 - -(k : Int)).toNat = k - (52 - m.log2) := by omega
  have e5 : m * 2 ^ k = sig m * 2 ^ (k - (52 - m.log2)) := by
   unfold sig;rw [Nat.mul_assoc, <- Nat.pow_add, show 52 - m.log2 + (k - (52 - m.log2)) = k by omega]
  rw [e3, e4, Nat.shiftLeft_zero, e5];refine cut_exact neg (sig m) _ ?_;rw [<- e5, log2_shift m k h0]; omega
 rw [hkept]
 have eb : double.binade = 2 ^ 52 := rfl
 have ei : double.infRung = 2047 * 2 ^ 52 := by decide
 rw [eb, ei]
 have hmin : min ((m.log2 + 1022) * 2 ^ 52 + sig m) (2047 * 2 ^ 52) = (m.log2 + 1022) * 2 ^ 52 + sig m := by omega
 rw [hmin]
 rfl
theorem rung_lt (m : Nat) (h0 : 0 < m) (h1 : m < 2 ^ 53) : 2 ^ 52 <= rung m /\ rung m < 1076 * 2 ^ 52 := by
 have hl := log2_le m h0 h1
 have hs := sig_range m h0 h1
 unfold rung
 omega
theorem read_word (neg : Bool) (m : Nat) (h0 : 0 < m) (h1 : m < 2 ^ 53) : double.read (double.word neg (rung m)) = .number neg (sig m) (-((52 - m.log2 : Nat) : Int)) := by
 have hl := log2_le m h0 h1
 have hs := sig_range m h0 h1
 have hr := rung_lt m h0 h1
 have esw : double.signWeight = 2 ^ 63 := by decide
 have eb : double.binade = 2 ^ 52 := rfl
 have ei : double.infRung = 2047 * 2 ^ 52 := by decide
 have el : double.leastPlace = -1074 := by decide
 have hneg : (double.word neg (rung m) / double.signWeight % 2 == 1) = neg := by
  unfold Format.word;rw [esw];cases neg with
  | true =>
   simp only [if_true];have : (2 ^ 63 + rung m) / 2 ^ 63 = 1 := by omega
   rw [this]; rfl
  | false =>
   simp only [Bool.false_eq_true, if_false];have : rung m / 2 ^ 63 = 0 := by omega
   rw [this]; rfl
 have hmod : double.word neg (rung m) % double.signWeight = rung m := by
  unfold Format.word;rw [esw];cases neg with
  | true => simp only [if_true]; omega
  | false => simp only [Bool.false_eq_true, if_false]; omega
 unfold Format.read
 simp only [hneg, hmod, eb, ei, el]
 rw [if_neg (by omega), if_pos (by omega)]
 have hd : rung m / 2 ^ 52 = m.log2 + 1023 := by unfold rung; omega
 have hm2 : rung m % 2 ^ 52 = sig m - 2 ^ 52 := by unfold rung; omega
 have ha : 2 ^ 52 + (sig m - 2 ^ 52) = sig m := by omega
 have hb : (-1074 : Int) + ((m.log2 + 1023 - 1 : Nat) : Int) = -((52 - m.log2 : Nat) : Int) := by omega
 rw [hd, hm2, ha, hb]
def fW (v : Int) : Nat := FloatKind.nearest .f64 v
theorem fW_zero : fW 0 = 0 := by decide
theorem fW_eq (v : Int) : fW v = double.nearest (decide (v < 0)) v.natAbs 0 := by
 simp only [fW, FloatKind.nearest, FloatKind.encode, FloatKind.format, Format.write]
theorem fW_word (v : Int) (h0 : v ≠ 0) (h1 : v.natAbs < 2 ^ 53) : fW v = double.word (decide (v < 0)) (rung v.natAbs) := by
 have := near (decide (v < 0)) v.natAbs 0 (by omega) h1
 have e : (-((0 : Nat) : Int)) = 0 := by simp
 rw [Nat.pow_zero, Nat.mul_one, e] at this
 rw [fW_eq]
 exact this
theorem fW_read (v : Int) (h1 : v.natAbs < 2 ^ 53) : ∃ d : Nat, double.read (fW v) = .number (decide (v < 0)) (v.natAbs * 2 ^ d) (-(d : Int)) := by
 by_cases h0 : v = 0
 ·subst h0;obtain ⟨d, hd⟩ := xS 1074;refine ⟨d, ?_⟩;have e : (0 : Int).natAbs * 2 ^ d = 0 := Nat.zero_mul _;rw [fW_zero, e];subst hd;decide
 refine ⟨52 - v.natAbs.log2, ?_⟩
 rw [fW_word v h0 h1, read_word _ _ (by omega) h1]
 rfl
theorem signed_is (v : Int) (d up : Nat) : signed (decide (v < 0)) (v.natAbs * 2 ^ d) up = v * (2 ^ (d + up) : Nat) := by
 unfold signed
 rw [Nat.shiftLeft_eq, Nat.mul_assoc, <- Nat.pow_add]
 by_cases h : v < 0
 ·simp only [h, decide_true, if_true];rw [Int.natCast_mul, <- Int.neg_mul]
  congr 1
  omega
 simp only [h, decide_false, Bool.false_eq_true, if_false]
 rw [Int.natCast_mul]
 congr 1
 omega
theorem fW_add (v w : Int) (h1 : v.natAbs < 2 ^ 53) (h2 : w.natAbs < 2 ^ 53) (h3 : (v + w).natAbs < 2 ^ 53) : double.add (fW v) (fW w) = some (fW (v + w)) := by
 obtain ⟨d, hd⟩ := fW_read v h1
 obtain ⟨e, he⟩ := fW_read w h2
 unfold Format.add
 rw [hd, he]
 unfold Datum.sum
 simp only [Option.map_some, Option.some.injEq]
 obtain ⟨M, hM⟩ := xE (max d e)
 have hbase : min (-(d : Int)) (-(e : Int)) = -(M : Int) := by omega
 rw [hbase]
 have e1 : (-(d : Int) - -(M : Int)).toNat = M - d := by omega
 have e2 : (-(e : Int) - -(M : Int)).toNat = M - e := by omega
 rw [e1, e2, signed_is, signed_is, show d + (M - d) = M by omega, show e + (M - e) = M by omega, <- Int.add_mul]
 have hp : (0 : Int) < (2 ^ M : Nat) := by
  have : 0 < 2 ^ M := Nat.two_pow_pos M;omega
 by_cases h0 : v + w = 0
 ·have hst : (decide (v < 0) && decide (w < 0)) = false := by
   by_cases hv : v < 0
   ·have hw : ¬ w < 0 := by omega
    simp [hw]
   simp [hv]
  rw [h0, Int.zero_mul, fW_zero, if_pos rfl, hst];rfl
 have hne : (v + w) * ((2 ^ M : Nat) : Int) ≠ 0 := Int.mul_ne_zero h0 (by omega)
 have hneg : decide ((v + w) * ((2 ^ M : Nat) : Int) < 0) = decide (v + w < 0) := by
  rw [decide_eq_decide];constructor
  ·intro h;rcases Int.lt_or_le (v + w) 0 with h4 | h4
   ·exact h4
   have := Int.mul_nonneg h4 (Int.le_of_lt hp); omega
  intro h;exact Int.mul_neg_of_neg_of_pos h hp
 rw [if_neg hne, hneg, Int.natAbs_mul, Int.natAbs_natCast]
 show double.nearest (decide (v + w < 0)) ((v + w).natAbs * 2 ^ M) (-(M : Int)) = _
 rw [near _ _ M (by omega) h3, fW_word _ h0 h3]
theorem fW_toInt (v : Int) (h1 : v.natAbs < 2 ^ 53) : (double.read (fW v)).toInt .zero = some v := by
 obtain ⟨d, hd⟩ := fW_read v h1
 rw [hd]
 unfold Datum.toInt Datum.integral
 simp only
 have e1 : (-(d : Int)).toNat = 0 := by omega
 have e2 : (- -(d : Int)).toNat = d := by omega
 rw [e1, e2, Nat.shiftLeft_zero]
 have hcut : Toward.zero.cut (decide (v < 0)) (v.natAbs * 2 ^ d) d = v.natAbs := by
  unfold Toward.cut;simp only [Bool.toNat_false, Nat.add_zero];rw [Nat.one_shiftLeft];by_cases h0 : v = 0
  ·subst h0; simp
  rw [log2_shift _ _ (by omega), Nat.min_eq_left (by omega), Nat.mul_div_cancel _ (Nat.two_pow_pos d)]
 rw [hcut]
 have := signed_is v 0 0
 rw [Nat.pow_zero, Nat.mul_one] at this
 rw [this]
 simp
end
theorem big_read : Ieee.double.read 4845873199050653696 = .number false (2 ^ 52) 1 := by decide
theorem low_read : Ieee.double.read 14069245235905429504 = .number true (2 ^ 52) 1 := by decide
theorem order_big (v : Int) (h1 : v.natAbs < 2 ^ 53) : FloatKind.f64.format.order (fW v) 4845873199050653696 = some .lt := by
 obtain ⟨d, hd⟩ := fW_read v h1
 show Ieee.double.order _ _ = _
 unfold Ieee.Format.order
 rw [hd, big_read]
 unfold Ieee.Datum.order
 simp only [Option.some.injEq]
 have hbase : min (-(d : Int)) 1 = -(d : Int) := by omega
 rw [hbase]
 have e1 : (-(d : Int) - -(d : Int)).toNat = 0 := by omega
 have e2 : ((1 : Int) - -(d : Int)).toNat = d + 1 := by omega
 rw [e1, e2, signed_is]
 have e3 : Ieee.signed false (2 ^ 52) (d + 1) = 2 ^ 53 * ((2 ^ d : Nat) : Int) := by
  unfold Ieee.signed;simp only [Bool.false_eq_true, if_false];rw [Nat.shiftLeft_eq];have hX : (2 ^ 52 * 2 ^ (d + 1) : Nat) = 9007199254740992 * 2 ^ d := by
   rw [Nat.pow_add 2 d 1, Nat.pow_one];generalize 2 ^ d = X;omega
  rw [hX, Int.natCast_mul];generalize ((2 ^ d : Nat) : Int) = X;omega
 rw [e3, Nat.add_zero]
 have hp : (0 : Int) < (2 ^ d : Nat) := by
  have := Nat.two_pow_pos d;omega
 have hlt : v * ((2 ^ d : Nat) : Int) < 2 ^ 53 * ((2 ^ d : Nat) : Int) := (Int.mul_lt_mul_right hp).2 (by omega)
 simp only [compare, compareOfLessAndEq, if_pos hlt]
theorem order_low (v : Int) (h1 : v.natAbs < 2 ^ 53) : FloatKind.f64.format.order (fW v) 14069245235905429504 = some .gt := by
 obtain ⟨d, hd⟩ := fW_read v h1
 show Ieee.double.order _ _ = _
 unfold Ieee.Format.order
 rw [hd, low_read]
 unfold Ieee.Datum.order
 simp only [Option.some.injEq]
 have hbase : min (-(d : Int)) 1 = -(d : Int) := by omega
 rw [hbase]
 have e1 : (-(d : Int) - -(d : Int)).toNat = 0 := by omega
 have e2 : ((1 : Int) - -(d : Int)).toNat = d + 1 := by omega
 rw [e1, e2, signed_is]
 have e3 : Ieee.signed true (2 ^ 52) (d + 1) = -(2 ^ 53) * ((2 ^ d : Nat) : Int) := by
  unfold Ieee.signed;simp only [if_true];rw [Nat.shiftLeft_eq];have hX : (2 ^ 52 * 2 ^ (d + 1) : Nat) = 9007199254740992 * 2 ^ d := by
   rw [Nat.pow_add 2 d 1, Nat.pow_one];generalize 2 ^ d = X;omega
  rw [hX, Int.natCast_mul];generalize ((2 ^ d : Nat) : Int) = X;omega
 rw [e3, Nat.add_zero]
 have hp : (0 : Int) < (2 ^ d : Nat) := by
  have := Nat.two_pow_pos d;omega
 have hlt : -(2 ^ 53) * ((2 ^ d : Nat) : Int) < v * ((2 ^ d : Nat) : Int) := (Int.mul_lt_mul_right hp).2 (by omega)
 have h2 : ¬ v * ((2 ^ d : Nat) : Int) < -(2 ^ 53) * ((2 ^ d : Nat) : Int) := by omega
 have h3 : ¬ v * ((2 ^ d : Nat) : Int) = -(2 ^ 53) * ((2 ^ d : Nat) : Int) := by omega
 simp only [compare, compareOfLessAndEq, if_neg h2, if_neg h3]
theorem run_cadd' {P : Program} (t : TypeId) (a b c d e f : Nat) (h1 : FloatKind.f64.format.add a c = some e) (h2 : FloatKind.f64.format.add b d = some f) (w : World) : (binOp .add t (.complex .f64 a b) (.complex .f64 c d)).run P w = .ok (.complex .f64 e f) w := by
 simp [binOp, Op.complexOp, Op.Complex.arith, Op.floatArith, h1, h2]
theorem run_toInt {P : Program} {w : World} (src dst : TypeId) (v : Int) (h1 : v.natAbs < 2 ^ 53) (hs : (P.underlying src).isSome = true) (hd : P.underlying dst = some (.int .i64)) :
  (convert src dst (.float .f64 (fW v))).run P w = .ok (.int .i64 v) w := by
 refine run_convert_float_int _ src dst .f64 .i64 (fW v) v hs hd ?_
 unfold floatToIntVal
 have := fW_toInt v h1
 rw [show FloatKind.f64.decode (fW v) = Ieee.double.read (fW v) from rfl, this]
 simp only
 rw [if_pos]
 simp [IntKind.min, IntKind.max, IntKind.signed, IntKind.bits]
 omega
theorem part_any (v : Int) (h1 : v.natAbs < 2 ^ 53) (w : World) : Calls Tryz.prog 20 #[.float .f64 (fW v)] w fun e w' => e = .returned (.int .i64 v) /\ w = w' := by
 have hg := order_low v h1
 have hl := order_big v h1
 have hi := fun (w : World) => run_toInt (P := Tryz.prog) (w := w) 67 3 v h1 (by kernel_rfl) Tryz.underlying3
 obtain ⟨f, hf⟩ := xE (fW v)
 simp only [hf] at hg hl hi ⊢
 clear hf h1
 go_enter Tryz.func20, Tryz.ntmps20
 go_wp2
 go_ret
 exact ⟨rfl, rfl⟩
theorem octets_any (a b : Int) (ha : a.natAbs < 2 ^ 53) (w : World) : Calls Tryz.prog 11 #[.complex .f64 (fW a) (fW b)] w fun e w' => e = .returned (.int .i64 a) /\ w = w' := by
 have hp := hid (fun w => part_any a ha w)
 obtain ⟨f, hf⟩ := xE (fW a)
 obtain ⟨g, hg⟩ := xE (fW b)
 rw [hf, hg]
 rw [hf] at hp
 clear hf hg ha
 go_enter Tryz.func11, Tryz.ntmps11
 go_wp2_with fail
 refine (hp.out _).mono ?_
 rintro e w1 ⟨rfl, rfl⟩
 go_wp2
 go_ret
 exact ⟨rfl, rfl⟩
theorem actions_any (a b : Int) (hb : b.natAbs < 2 ^ 53) (w : World) : Calls Tryz.prog 10 #[.complex .f64 (fW a) (fW b)] w fun e w' => e = .returned (.int .i64 b) /\ w = w' := by
 have hp := hid (fun w => part_any b hb w)
 obtain ⟨f, hf⟩ := xE (fW a)
 obtain ⟨g, hg⟩ := xE (fW b)
 rw [hf, hg]
 rw [hg] at hp
 clear hf hg hb
 go_enter Tryz.func10, Tryz.ntmps10
 go_wp2_with fail
 refine (hp.out _).mono ?_
 rintro e w1 ⟨rfl, rfl⟩
 go_wp2
 go_ret
 exact ⟨rfl, rfl⟩
def cV (p : Nat × Nat) : Value := .complex .f64 (fW (p.1 : Int)) (fW (p.2 : Int))
def sumP (l : List (Nat × Nat)) : Nat × Nat := l.foldl (fun a b => (a.1 + b.1, a.2 + b.2)) (0, 0)
theorem sumP_take (l : List (Nat × Nat)) (k : Nat) (h : k < l.length) : sumP (l.take (k + 1)) = ((sumP (l.take k)).1 + l[k].1, (sumP (l.take k)).2 + l[k].2) := by
 unfold sumP
 rw [List.take_succ_eq_append_getElem h, List.foldl_append]
 rfl
theorem sumP_from (l : List (Nat × Nat)) : ∀ a : Nat × Nat, l.foldl (fun a b => (a.1 + b.1, a.2 + b.2)) a = (a.1 + (sumP l).1, a.2 + (sumP l).2) := by
 induction l with
 | nil => intro a; simp [sumP]
 | cons b l ih =>
  intro a;simp only [List.foldl_cons, sumP];rw [ih, ih];simp; omega
theorem sumP_cons (b : Nat × Nat) (l : List (Nat × Nat)) : sumP (b :: l) = (b.1 + (sumP l).1, b.2 + (sumP l).2) := by
 show (b :: l).foldl _ _ = _
 rw [List.foldl_cons, sumP_from]
 simp
theorem sumP_le (l : List (Nat × Nat)) (k : Nat) : (sumP (l.take k)).1 <= (sumP l).1 /\ (sumP (l.take k)).2 <= (sumP l).2 := by
 induction l generalizing k with
 | nil => simp [sumP]
 | cons b l ih =>
  cases k with
  | zero => simp [sumP]
  | succ k =>
   rw [List.take_succ_cons, sumP_cons, sumP_cons];have := ih k;simp only; omega
theorem sum_any (A : Option Addr) (cap : Nat) (l : List (Nat × Nat)) (w : World) (B : Nat) (hR : Reads w B 1 A l.length (l.map cV)) (hn : l.length <= 1048576) (h1 : (sumP l).1 < 2 ^ 53) (h2 : (sumP l).2 < 2 ^ 53) :
  Calls Tryz.prog 21 #[.slice A l.length cap] w fun e w' => e = .returned (cV (sumP l)) /\ w = w' := by
 have HR := hid hR
 have Hle := hid (sumP_le l)
 have Htk := hid (sumP_take l)
 clear hR
 obtain ⟨n, hnn⟩ := xE l.length
 have Hn := hid hnn
 rw [hnn] at hn ⊢
 clear hnn
 have H0 := hid fW_zero
 go_enter Tryz.func21, Tryz.ntmps21
 go_wp2
 go_loop [3, 8] (fun c i => ∃ k : Nat, k <= n /\ i = .int .i64 k /\ c = cV (sumP (l.take k))) (fun _ i => n - (intOf i).toNat)
 case atStart => exact ⟨0, Nat.zero_le _, rfl, by rw [List.take_zero]; show _ = Value.complex .f64 (fW 0) (fW 0); rw [H0.out]⟩
 obtain ⟨k, hk, rfl, rfl⟩ := hrel
 by_cases hlt : k < n
 ·have hkl : k < l.length := by rw [Hn.out]; exact hlt
  obtain ⟨ad, rfl, hbl, hc⟩ : ∃ ad, A = some ad /\ ad.block < B /\ w.cell? (ad.add k) = some (cV l[k]) := by
   obtain ⟨ad, e, hb, hc⟩ := HR.out.2 (by omega);exact ⟨ad, e, hb, hc k _ (by simp [hkl])⟩
  have hle := Hle.out k;have hle2 := Hle.out (k + 1);have htk := Htk.out k hkl;rw [htk] at hle2;obtain ⟨p, hp⟩ := xE l[k];obtain ⟨q, hq⟩ := xE (sumP (l.take k));rw [hp, hq] at htk hle2;rw [hp] at hc;rw [hq] at hle ⊢;simp only at hle2;have e1 := fW_add (q.1 : Int) (p.1 : Int) (by omega) (by omega) (by omega);have e2 := fW_add (q.2 : Int) (p.2 : Int) (by omega) (by omega) (by omega);have e3 : Hid (cV (sumP (l.take (k + 1))) = .complex .f64 (fW ((q.1 : Int) + (p.1 : Int))) (fW ((q.2 : Int) + (p.2 : Int)))) := hid (by rw [htk]; unfold cV; simp);unfold cV at hc ⊢;obtain ⟨a1, ha1⟩ := xE (fW (q.1 : Int));obtain ⟨a2, ha2⟩ := xE (fW (q.2 : Int));obtain ⟨b1, hb1⟩ := xE (fW (p.1 : Int));obtain ⟨b2, hb2⟩ := xE (fW (p.2 : Int));obtain ⟨c1, hc1⟩ := xE (fW ((q.1 : Int) + (p.1 : Int)));obtain ⟨c2, hc2⟩ := xE (fW ((q.2 : Int) + (p.2 : Int)));rw [ha1, hb1, hc1] at e1;rw [ha2, hb2, hc2] at e2;rw [hc1, hc2] at e3;rw [hb1, hb2] at hc;rw [ha1, ha2];have f1 : FloatKind.f64.format.add a1 b1 = some c1 := e1;have f2 : FloatKind.f64.format.add a2 b2 = some c2 := e2;clear e1 e2 ha1 ha2 hb1 hb2 hc1 hc2 hp hq htk hle hle2 hkl;have hadd := run_cadd' (P := Tryz.prog) 43 a1 a2 b1 b2 c1 c2 f1 f2;clear f1 f2;go_wp2
  go_round
  case rel => exact ⟨k + 1, by omega, by go_num, e3.out.symm⟩
  simp [intOf]; omega
 obtain rfl : k = n := by omega
 have hall : Hid (l.take k = l) := hid (List.take_of_length_le (by rw [Hn.out]; exact Nat.le_refl _))
 rw [hall.out]
 unfold cV
 go_wp2
 go_ret
 exact ⟨rfl, rfl⟩
inductive Nd where
 | mk (k : Int) (x : ByteArray) (b e : List Nd)
def oneP (k : Int) (x : ByteArray) : Nat × Nat := if k = 1 then (x.size, 0) else if k = 2 then (0, 1) else (0, 0)
mutual
def Nd.sz : Nd -> Nat × Nat
 | .mk k x b e => ((oneP k x).1 + (ndsSz b).1 + (ndsSz e).1, (oneP k x).2 + (ndsSz b).2 + (ndsSz e).2)
def ndsSz : List Nd -> Nat × Nat
 | [] => (0, 0)
 | n :: r => (n.sz.1 + (ndsSz r).1, n.sz.2 + (ndsSz r).2)
end
mutual
def Nd.num : Nd -> Nat
 | .mk _ _ b e => 1 + ndsNum b + ndsNum e
def ndsNum : List Nd -> Nat
 | [] => 0
 | n :: r => n.num + ndsNum r
end
mutual
def NdAt (w : World) (B : Nat) (p : Addr) : Nd -> Prop
 | .mk k x b e => (p.block < B /\ x.size <= 1099511627776) /\ w.cell? p = some (.int .i64 k) /\ w.cell? ⟨p.block, p.off + 1, none⟩ = some (.string x) /\
  ∃ (nm : ByteArray) (Ap : Option Addr) (np cp : Nat) (Ab : Option Addr) (cb : Nat) (Ae : Option Addr) (ce : Nat) (v6 v7 v8 : Int), w.cell? ⟨p.block, p.off + 2, none⟩ = some (.string nm) /\ w.cell? ⟨p.block, p.off + 3, none⟩ = some (.slice Ap np cp) /\
   w.cell? ⟨p.block, p.off + 4, none⟩ = some (.slice Ab b.length cb) /\ w.cell? ⟨p.block, p.off + 5, none⟩ = some (.slice Ae e.length ce) /\
   w.cell? ⟨p.block, p.off + 6, none⟩ = some (.int .i64 v6) /\ w.cell? ⟨p.block, p.off + 7, none⟩ = some (.int .i64 v7) /\ w.cell? ⟨p.block, p.off + 8, none⟩ = some (.int .i64 v8) /\
   NdsAt w B Ab 0 b /\ NdsAt w B Ae 0 e
def NdsAt (w : World) (B : Nat) (A : Option Addr) (i : Nat) : List Nd -> Prop
 | [] => True
 | n :: r => (∃ ad, A = some ad /\ NdAt w B (ad.add (i * 9)) n) /\ NdsAt w B A (i + 1) r
end
mutual
theorem NdAt.keep {w w' : World} {B : Nat} (h : ∀ p : Addr, p.block < B -> w'.cell? p = w.cell? p) : ∀ (n : Nd) (p : Addr), NdAt w B p n -> NdAt w' B p n
 | .mk k x b e, p, hn => by
  unfold NdAt at hn ⊢;obtain ⟨h0, h1, h2, nm, Ap, np, cp, Ab, cb, Ae, ce, v6, v7, v8, g2, g3, g4, g5, g6, g7, g8, hb, he⟩ := hn;have hj : ∀ j, w'.cell? ⟨p.block, p.off + j, none⟩ = w.cell? ⟨p.block, p.off + j, none⟩ := fun j => h ⟨p.block, p.off + j, none⟩ h0.1
  exact ⟨h0, (h _ h0.1).trans h1, (hj 1).trans h2, nm, Ap, np, cp, Ab, cb, Ae, ce, v6, v7, v8, (hj 2).trans g2, (hj 3).trans g3, (hj 4).trans g4, (hj 5).trans g5, (hj 6).trans g6, (hj 7).trans g7, (hj 8).trans g8, NdsAt.keep h b Ab 0 hb, NdsAt.keep h e Ae 0 he⟩
theorem NdsAt.keep {w w' : World} {B : Nat} (h : ∀ p : Addr, p.block < B -> w'.cell? p = w.cell? p) : ∀ (l : List Nd) (A : Option Addr) (i : Nat), NdsAt w B A i l -> NdsAt w' B A i l
 | [], _, _, _ => by unfold NdsAt; trivial
 | n :: r, A, i, hl => by
  unfold NdsAt at hl ⊢;obtain ⟨⟨ad, e, hn⟩, hr⟩ := hl;exact ⟨⟨ad, e, NdAt.keep h n _ hn⟩, NdsAt.keep h r A (i + 1) hr⟩
end
theorem NdsAt.at_ {w : World} {B : Nat} {A : Option Addr} : ∀ (l : List Nd) (i k : Nat) (hk : k < l.length), NdsAt w B A i l -> ∃ ad, A = some ad /\ NdAt w B (ad.add ((i + k) * 9)) l[k]
 | n :: r, i, 0, _, h => by unfold NdsAt at h; exact h.1
 | n :: r, i, k + 1, hk, h => by
  unfold NdsAt at h;have := NdsAt.at_ r (i + 1) k (by simpa using hk) h.2;rw [show i + (k + 1) = i + 1 + k by omega];exact this
theorem ndsSz_take : ∀ (l : List Nd) (k : Nat) (h : k < l.length), ndsSz (l.take (k + 1)) = ((ndsSz (l.take k)).1 + l[k].sz.1, (ndsSz (l.take k)).2 + l[k].sz.2)
 | n :: r, 0, _ => by simp [ndsSz]
 | n :: r, k + 1, h => by
  rw [List.take_succ_cons, List.take_succ_cons, ndsSz, ndsSz, ndsSz_take r k (by simpa using h)];simp [Nat.add_assoc]
theorem ndsSz_le : ∀ (l : List Nd) (k : Nat), (ndsSz (l.take k)).1 <= (ndsSz l).1 /\ (ndsSz (l.take k)).2 <= (ndsSz l).2
 | [], k => by simp [ndsSz]
 | n :: r, 0 => by simp [ndsSz]
 | n :: r, k + 1 => by
  have := ndsSz_le r k;rw [List.take_succ_cons, ndsSz, ndsSz];simp only; omega
theorem ndsNum_at : ∀ (l : List Nd) (k : Nat) (h : k < l.length), l[k].num <= ndsNum l
 | n :: r, 0, _ => by simp [ndsNum]
 | n :: r, k + 1, h => by
  have := ndsNum_at r k (by simpa using h);simp only [List.getElem_cons_succ, ndsNum]; omega
theorem ndsNum_len : ∀ (l : List Nd), l.length <= ndsNum l
 | [] => by simp [ndsNum]
 | .mk k x b e :: r => by
  have := ndsNum_len r;simp only [List.length_cons, ndsNum, Nd.num]; omega
theorem szOne_any (k : Int) (x nm : ByteArray) (Ap : Option Addr) (np cp : Nat) (Ab : Option Addr) (nb cb : Nat) (Ae : Option Addr) (ne ce : Nat) (v6 v7 v8 : Int) (w : World) (hx : x.size <= 1099511627776) :
  Calls Tryz.prog 22 #[.agg #[.int .i64 k, .string x, .string nm, .slice Ap np cp, .slice Ab nb cb, .slice Ae ne ce, .int .i64 v6, .int .i64 v7, .int .i64 v8]] w fun e w' => e = .returned (cV (oneP k x)) /\ Below w.heap.size w w' := by
 have hb : Below w.heap.size w (w.alloc (.cells #[.int .i64 k, .string x, .string nm, .slice Ap np cp, .slice Ab nb cb, .slice Ae ne ce, .int .i64 v6, .int .i64 v7, .int .i64 v8] 52)) := (Below.refl _ _).alloc (Nat.le_refl _) _
 have H0 := hid fW_zero
 have H1 : Hid (fW 1 = 4607182418800017408) := hid (by decide)
 by_cases h1 : k = 1
 ·subst h1;have HO : Hid (cV (oneP 1 x) = .complex .f64 (fW x.size) 0) := hid (by unfold cV oneP; rw [if_pos rfl]; show Value.complex .f64 (fW x.size) (fW 0) = _; rw [H0.out]);obtain ⟨f, hf⟩ := xE (fW (x.size : Int));have hcv : floatOfInt FloatKind.f64 (x.size : Int) = f := hf;have HF : Hid (cV (oneP 1 x) = .complex .f64 f 0) := hid (by rw [HO.out, hf]);clear hf;rw [HF.out];go_enter Tryz.func22, Tryz.ntmps22;go_wp2
  go_ret;exact ⟨rfl, hb⟩
 by_cases h2 : k = 2
 ·subst h2;have HO : Hid (cV (oneP 2 x) = .complex .f64 0 4607182418800017408) := hid (by unfold cV oneP; rw [if_neg (by decide), if_pos rfl]; show Value.complex .f64 (fW 0) (fW 1) = _; rw [H0.out, H1.out]);rw [HO.out];go_enter Tryz.func22, Tryz.ntmps22;go_wp2
  go_ret;exact ⟨rfl, hb⟩
 have HO : Hid (cV (oneP k x) = .complex .f64 0 0) := hid (by unfold cV oneP; rw [if_neg h1, if_neg h2]; show Value.complex .f64 (fW 0) (fW 0) = _; rw [H0.out])
 have b1 : (k == 1) = false := beq_eq_false_iff_ne.2 h1
 have b2 : (k == 2) = false := beq_eq_false_iff_ne.2 h2
 rw [HO.out]
 go_enter Tryz.func22, Tryz.ntmps22
 go_wp2
 go_ret
 exact ⟨rfl, hb⟩
theorem below_after {B : Nat} {w0 W w' : World} (h1 : Below B w0 W) (hlt : B < W.heap.size) (h2 : Below W.heap.size W w') : Below B w0 w' := h1.trans (h2.mono (Nat.le_of_lt hlt))
theorem cell_after {B j : Nat} {W w' : World} {v : Value} (h2 : Below W.heap.size W w') (hlt : B < W.heap.size) (hc : W.cell? ⟨B, j, none⟩ = some v) : w'.cell? ⟨B, j, none⟩ = some v := (h2.cell (p := ⟨B, j, none⟩) hlt).trans hc
theorem size_after {B : Nat} {W w' : World} (h2 : Below W.heap.size W w') (hlt : B < W.heap.size) : B < w'.heap.size := Nat.lt_of_lt_of_le hlt h2.size
theorem alloc_plain (W : World) (o : Obj) : Below W.heap.size W (W.alloc o) := (Below.refl _ _).alloc (Nat.le_refl _) o
theorem alloc_drew (W : World) (o : Obj) : Below W.heap.size W (W.alloc o).drew := ((Below.refl _ _).alloc (Nat.le_refl _) o).drew
def RNds (w : World) (l : List Nd) (e : Ending) (w' : World) : Prop := e = .returned (cV (ndsSz l)) /\ Below w.heap.size w w'
theorem nodes_key : ∀ (m : Nat) (l : List Nd), ndsNum l = m -> ndsNum l <= 1048576 -> (ndsSz l).1 < 2 ^ 50 -> (ndsSz l).2 < 2 ^ 50 -> ∀ (A : Option Addr) (cap : Nat) (w : World) (B : Nat), NdsAt w B A 0 l -> B <= w.heap.size ->
  Calls Tryz.prog 12 #[.slice A l.length cap] w (RNds w l) := by
 intro m
 induction m using Nat.strongRecOn with
 | ind m ih =>
  intro l hnum hm hs1 hs2 A cap w B hR hB;have hlen := ndsNum_len l;have HR := hid hR;have Hle := hid (ndsSz_le l);have Htk := hid (ndsSz_take l);have Hat := hid (ndsNum_at l);have IH := hid ih;clear hR ih;obtain ⟨n, hnn⟩ := xE l.length;have Hn := hid hnn;have hnb : n <= 1048576 := by omega
  rw [hnn];clear hnn hlen;have H0 := hid fW_zero;go_enter Tryz.func12, Tryz.ntmps12;go_wp2
  go_loopw [3, 8] (fun c i wr => ∃ k : Nat, k <= n /\ i = .int .i64 k /\ c = cV (ndsSz (l.take k)) /\ Below w.heap.size w wr) (fun _ i _ => n - (intOf i).toNat)
  case atStart => exact ⟨0, Nat.zero_le _, rfl, by rw [List.take_zero]; show _ = Value.complex .f64 (fW 0) (fW 0); rw [H0.out], Below.refl _ _⟩
  obtain ⟨k, hk, rfl, rfl, hbw⟩ := hrel;by_cases hlt : k < n
  ·have hkl : k < l.length := by rw [Hn.out]; exact hlt
   obtain ⟨ad, rfl, hnd⟩ := NdsAt.at_ l 0 k hkl (NdsAt.keep (w' := wr) (fun p hp => (hbw.mono hB).cell hp) l A 0 HR.out);rw [Nat.zero_add] at hnd;have hat := Hat.out k hkl;have htk := Htk.out k hkl;have hle := Hle.out (k + 1);obtain ⟨p, hp⟩ := xE l[k];rw [hp] at hnd hat htk;obtain ⟨kd, x, b, e⟩ := p;unfold NdAt at hnd;obtain ⟨h0, c0, c1, nm, Ap, np, cp, Ab, cb, Ae, ce, v6, v7, v8, c2, c3, c4, c5, c6, c7, c8, hb, he⟩ := hnd;simp only [Nd.num] at hat;rw [htk] at hle;simp only [Nd.sz] at hle htk;have hxz : x.size <= 1099511627776 := h0.2;have Hone := hid (fun W => szOne_any kd x nm Ap np cp Ab b.length cb Ae e.length ce v6 v7 v8 W hxz);have Hbb := hid (fun (W : World) (h : Below wr.heap.size wr W) => IH.out (ndsNum b) (by omega) b rfl (by omega) (by omega) (by omega) Ab cb W B (NdsAt.keep (fun p hp => (h.mono (by have := hbw.size; omega)).cell hp) b Ab 0 hb) (by have := hbw.size; have := h.size; omega));have Hee := hid (fun (W : World) (h : Below wr.heap.size wr W) => IH.out (ndsNum e) (by omega) e rfl (by omega) (by omega) (by omega) Ae ce W B (NdsAt.keep (fun p hp => (h.mono (by have := hbw.size; omega)).cell hp) e Ae 0 he) (by have := hbw.size; have := h.size; omega));obtain ⟨nb, hnb'⟩ := xE b.length;obtain ⟨ne, hne'⟩ := xE e.length;rw [hnb'] at c4 Hone Hbb;rw [hne'] at c5 Hone Hee;clear hnb' hne' hp hkl hb he hat;obtain ⟨q, hq⟩ := xE (ndsSz (l.take k));obtain ⟨po, hpo⟩ := xE (oneP kd x);obtain ⟨pb, hpb⟩ := xE (ndsSz b);obtain ⟨pe, hpe⟩ := xE (ndsSz e);rw [hpo, hpb, hpe, hq] at hle htk;rw [hpo] at Hone;unfold RNds at Hbb Hee;rw [hpb] at Hbb;rw [hpe] at Hee;rw [hq];have Hv : Hid (cV (sumP [q, po, pb, pe]) = cV (ndsSz (l.take (k + 1)))) := hid (by
    rw [htk]; congr 1; simp only [sumP, List.foldl_cons, List.foldl_nil, Prod.mk.injEq]; omega)
   have Hsum : Hid (∀ W : World, Calls Tryz.prog 21 #[.slice (some ⟨W.heap.size, 0, none⟩) 4 4] (W.alloc (.cells #[cV q, cV po, cV pb, cV pe] 43)) fun e w' => e = .returned (cV (ndsSz (l.take (k + 1)))) /\ (W.alloc (.cells #[cV q, cV po, cV pb, cV pe] 43)) = w') := hid (fun W => by
    have hr : Reads (W.alloc (.cells #[cV q, cV po, cV pb, cV pe] 43)) (W.heap.size + 1) 1 (some ⟨W.heap.size, 0, none⟩) [q, po, pb, pe].length ([q, po, pb, pe].map cV) := by
     refine ⟨rfl, fun _ => ⟨_, rfl, by simp, fun j u hu => ?_⟩⟩;rw [Addr.add_lit, Nat.zero_add];show (W.alloc (.cells #[cV q, cV po, cV pb, cV pe] 43)).cell? ⟨W.heap.size, j, none⟩ = _;rw [World.cell?_alloc_mark];rw [List.map_cons, List.map_cons, List.map_cons, List.map_cons, List.map_nil] at hu
     simpa using hu
    have := sum_any (some ⟨W.heap.size, 0, none⟩) 4 [q, po, pb, pe] _ _ hr (by simp) (by simp only [sumP, List.foldl_cons, List.foldl_nil]; omega) (by simp only [sumP, List.foldl_cons, List.foldl_nil]; omega);rw [Hv.out] at this;exact this)
   have hs0 := Blk.new wr 52 #[.int .i64 kd, .string x, .string nm, .slice Ap np cp, .slice Ab nb cb, .slice Ae ne ce, .int .i64 v6, .int .i64 v7, .int .i64 v8];have HS0 := hid hs0;clear hq hpo hpb hpe htk hle h0 hs0 Hv;obtain ⟨r1, hr1⟩ := xE (fW ((ndsSz (l.take (k + 1))).1 : Int));obtain ⟨r2, hr2⟩ := xE (fW ((ndsSz (l.take (k + 1))).2 : Int));have HRes : Hid (Value.complex .f64 r1 r2 = cV (ndsSz (l.take (k + 1)))) := hid (by unfold cV; rw [hr1, hr2]);simp only [cV] at Hone Hbb Hee Hsum ⊢;rw [hr1, hr2] at Hsum;clear hr1 hr2;generalize fW (q.1 : Int) = a1 at Hsum ⊢;generalize fW (q.2 : Int) = a2 at Hsum ⊢;generalize fW (po.1 : Int) = o1 at Hsum Hone;generalize fW (po.2 : Int) = o2 at Hsum Hone;generalize fW (pb.1 : Int) = b1 at Hsum Hbb;generalize fW (pb.2 : Int) = b2 at Hsum Hbb;generalize fW (pe.1 : Int) = e1 at Hsum Hee;generalize fW (pe.2 : Int) = e2 at Hsum Hee;go_wp2_with fail
   go_region_held3 (fun w' => w'.cell? ⟨wr.heap.size, 0, none⟩ = some (.int .i64 kd) /\ w'.cell? ⟨wr.heap.size, 1, none⟩ = some (.string x) /\ w'.cell? ⟨wr.heap.size, 2, none⟩ = some (.string nm) /\ w'.cell? ⟨wr.heap.size, 3, none⟩ = some (.slice Ap np cp) /\ w'.cell? ⟨wr.heap.size, 4, none⟩ = some (.slice Ab nb cb) /\ w'.cell? ⟨wr.heap.size, 5, none⟩ = some (.slice Ae ne ce) /\ w'.cell? ⟨wr.heap.size, 6, none⟩ = some (.int .i64 v6) /\ w'.cell? ⟨wr.heap.size, 7, none⟩ = some (.int .i64 v7) /\ w'.cell? ⟨wr.heap.size, 8, none⟩ = some (.int .i64 v8) /\ Below wr.heap.size wr w' /\ wr.heap.size < w'.heap.size)
    (first
     | exact ⟨(HS0.out.cell 0).trans rfl, (HS0.out.cell 1).trans rfl, (HS0.out.cell 2).trans rfl, (HS0.out.cell 3).trans rfl, (HS0.out.cell 4).trans rfl, (HS0.out.cell 5).trans rfl, (HS0.out.cell 6).trans rfl, (HS0.out.cell 7).trans rfl, (HS0.out.cell 8).trans rfl, alloc_drew _ _, by simp⟩
     | (go_split_ands
        exact ⟨cell_after hbk (by assumption) (by assumption), cell_after hbk (by assumption) (by assumption), cell_after hbk (by assumption) (by assumption), cell_after hbk (by assumption) (by assumption), cell_after hbk (by assumption) (by assumption), cell_after hbk (by assumption) (by assumption), cell_after hbk (by assumption) (by assumption), cell_after hbk (by assumption) (by assumption), cell_after hbk (by assumption) (by assumption), below_after (by assumption) (by assumption) hbk, size_after hbk (by assumption)⟩)
     | (go_split_ands
        exact ⟨cell_after (alloc_drew _ _) (by assumption) (by assumption), cell_after (alloc_drew _ _) (by assumption) (by assumption), cell_after (alloc_drew _ _) (by assumption) (by assumption), cell_after (alloc_drew _ _) (by assumption) (by assumption), cell_after (alloc_drew _ _) (by assumption) (by assumption), cell_after (alloc_drew _ _) (by assumption) (by assumption), cell_after (alloc_drew _ _) (by assumption) (by assumption), cell_after (alloc_drew _ _) (by assumption) (by assumption), cell_after (alloc_drew _ _) (by assumption) (by assumption), below_after (by assumption) (by assumption) (alloc_drew _ _), size_after (alloc_drew _ _) (by assumption)⟩)
     | (go_split_ands
        exact ⟨cell_after (alloc_plain _ _) (by assumption) (by assumption), cell_after (alloc_plain _ _) (by assumption) (by assumption), cell_after (alloc_plain _ _) (by assumption) (by assumption), cell_after (alloc_plain _ _) (by assumption) (by assumption), cell_after (alloc_plain _ _) (by assumption) (by assumption), cell_after (alloc_plain _ _) (by assumption) (by assumption), cell_after (alloc_plain _ _) (by assumption) (by assumption), cell_after (alloc_plain _ _) (by assumption) (by assumption), cell_after (alloc_plain _ _) (by assumption) (by assumption), below_after (by assumption) (by assumption) (alloc_plain _ _), size_after (alloc_plain _ _) (by assumption)⟩)
     | (go_split_ands
        refine ⟨?_, ?_, ?_, ?_, ?_, ?_, ?_, ?_, ?_, ?_, ?_⟩ <;> first | assumption | (simp; omega))
     | go_keep)
    (first
     | (go_at_call 22; refine (Hone.out _).mono ?_; rintro e' w' ⟨rfl, hbk⟩)
     | (go_at_call 12; (with_reducible refine (Hbb.out _ ?_).mono ?_); (go_split_ands; assumption); rintro e' w' ⟨rfl, hbk⟩)
     | (go_at_call 12; (with_reducible refine (Hee.out _ ?_).mono ?_); (go_split_ands; assumption); rintro e' w' ⟨rfl, hbk⟩)
     | (go_at_call 21; refine (Hsum.out _).mono ?_; rintro e' w' ⟨rfl, rfl⟩))
   all_goals
    go_split_ands
    go_wp2
    go_roundw
    case rel =>
     refine ⟨k + 1, by omega, by go_num, HRes.out, ?_⟩;exact hbw.trans (Below.mono (by assumption) hbw.size)
    simp [intOf]; omega
  obtain rfl : k = n := by omega
  have hall : Hid (l.take k = l) := hid (List.take_of_length_le (by rw [Hn.out]; exact Nat.le_refl _));rw [hall.out];unfold cV;go_wp2
  go_ret;exact ⟨rfl, hbw⟩
theorem nodes_anyZ (l : List Nd) (hm : ndsNum l <= 1048576) (hs1 : (ndsSz l).1 < 2 ^ 50) (hs2 : (ndsSz l).2 < 2 ^ 50) (A : Option Addr) (cap : Nat) (w : World) (B : Nat) (hR : NdsAt w B A 0 l) (hB : B <= w.heap.size) :
  Calls Tryz.prog 12 #[.slice A l.length cap] w (RNds w l) := nodes_key _ l rfl hm hs1 hs2 A cap w B hR hB
def aNds : List Nd := [.mk 1 ⟨#[97, 98]⟩ [] [], .mk 2 ⟨#[]⟩ [] []]
theorem aNds_sz : ndsSz aNds = (2, 1) := by decide
theorem alive34_any (w : World) : Calls Tryz.prog 4 #[] w fun e w' => e = .returned (.bool true) /\ Below w.heap.size w w' := by
 have hn := fun (W : World) (g : Nat) (h1 : NdsAt W W.heap.size (some ⟨g, 0, none⟩) 0 aNds) => nodes_anyZ aNds (by decide) (by decide) (by decide) (some ⟨g, 0, none⟩) 2 W W.heap.size h1 (Nat.le_refl _)
 unfold RNds at hn
 rw [aNds_sz] at hn
 have Hn := hid hn
 have Ho := hid (fun w => octets_any 2 1 (by decide) w)
 have Ha := hid (fun w => actions_any 2 1 (by decide) w)
 have e2 : fW 2 = 4611686018427387904 := by decide
 have e1 : fW 1 = 4607182418800017408 := by decide
 rw [e2, e1] at Ho Ha
 have hcv : cV (2, 1) = .complex .f64 4611686018427387904 4607182418800017408 := by unfold cV; show Value.complex .f64 (fW 2) (fW 1) = _; rw [e2, e1]
 rw [hcv] at Hn
 clear hn e1 e2 hcv
 go_enter Tryz.func4, Tryz.ntmps4
 go_wp2_with fail
 refine (Hn.out _ _ ?_).mono ?_
 ·simp only [aNds, NdsAt, NdAt];refine ⟨⟨_, rfl, ⟨by simp [Addr.add], by simp [ByteArray.size]⟩, ?_, ?_, ⟨#[]⟩, none, 0, 0, none, 0, none, 0, 0, 0, 0, ?_, ?_, ?_, ?_, ?_, ?_, ?_, trivial, trivial⟩, ⟨_, rfl, ⟨by simp [Addr.add], by simp [ByteArray.size]⟩, ?_, ?_, ⟨#[]⟩, none, 0, 0, none, 0, none, 0, 0, 0, 0, ?_, ?_, ?_, ?_, ?_, ?_, ?_, trivial, trivial⟩, trivial⟩;all_goals simp [Addr.add]
 rintro e w1 ⟨rfl, hb1⟩
 go_wp2_with fail
 refine (Ho.out _).mono ?_
 rintro e w2 ⟨rfl, rfl⟩
 go_wp2_with fail
 refine (Ha.out _).mono ?_
 rintro e w2 ⟨rfl, rfl⟩
 go_wp2
 go_ret
 exact ⟨rfl, ((Below.refl _ _).alloc (Nat.le_refl _) _).trans (hb1.mono (by simp))⟩
mutual
theorem NdAt.more {w : World} {B B' : Nat} (h : B <= B') : ∀ (n : Nd) (p : Addr), NdAt w B p n -> NdAt w B' p n
 | .mk k x b e, p, hn => by
  unfold NdAt at hn ⊢;obtain ⟨h0, h1, h2, nm, Ap, np, cp, Ab, cb, Ae, ce, v6, v7, v8, g2, g3, g4, g5, g6, g7, g8, hb, he⟩ := hn;exact ⟨⟨Nat.lt_of_lt_of_le h0.1 h, h0.2⟩, h1, h2, nm, Ap, np, cp, Ab, cb, Ae, ce, v6, v7, v8, g2, g3, g4, g5, g6, g7, g8, NdsAt.more h b Ab 0 hb, NdsAt.more h e Ae 0 he⟩
theorem NdsAt.more {w : World} {B B' : Nat} (h : B <= B') : ∀ (l : List Nd) (A : Option Addr) (i : Nat), NdsAt w B A i l -> NdsAt w B' A i l
 | [], _, _, _ => by unfold NdsAt; trivial
 | n :: r, A, i, hl => by
  unfold NdsAt at hl ⊢;obtain ⟨⟨ad, e, hn⟩, hr⟩ := hl;exact ⟨⟨ad, e, NdAt.more h n _ hn⟩, NdsAt.more h r A (i + 1) hr⟩
end
def NdCells (w : World) (B : Nat) (cs : List Value) : Nd -> Prop
 | .mk k x b e => x.size <= 1099511627776 /\ ∃ (nm : ByteArray) (Ap : Option Addr) (np cp : Nat) (Ab : Option Addr) (cb : Nat) (Ae : Option Addr) (ce : Nat) (v6 v7 v8 : Int),
   cs = [.int .i64 k, .string x, .string nm, .slice Ap np cp, .slice Ab b.length cb, .slice Ae e.length ce, .int .i64 v6, .int .i64 v7, .int .i64 v8] /\ NdsAt w B Ab 0 b /\ NdsAt w B Ae 0 e
def NdsRow (w : World) (B : Nat) : List Value -> List Nd -> Prop
 | row, [] => row = []
 | row, n :: r => ∃ cs rest, row = cs ++ rest /\ NdCells w B cs n /\ NdsRow w B rest r
theorem NdCells.len {w : World} {B : Nat} {cs : List Value} : ∀ {n : Nd}, NdCells w B cs n -> cs.length = 9
 | .mk k x b e, h => by
  obtain ⟨_, nm, Ap, np, cp, Ab, cb, Ae, ce, v6, v7, v8, rfl, _⟩ := h;rfl
theorem NdCells.one {w : World} {B : Nat} {cs : List Value} : ∀ {n : Nd}, NdCells w B cs n -> ∀ u ∈ cs, u.oneCell' = true
 | .mk k x b e, h => by
  obtain ⟨_, nm, Ap, np, cp, Ab, cb, Ae, ce, v6, v7, v8, rfl, _⟩ := h;intro u hu;simp only [List.mem_cons, List.not_mem_nil, or_false] at hu;rcases hu with rfl | rfl | rfl | rfl | rfl | rfl | rfl | rfl | rfl <;> rfl
theorem NdCells.keep {w w' : World} {B B' : Nat} (hB : B <= B') (hk : ∀ p : Addr, p.block < B -> w'.cell? p = w.cell? p) {cs : List Value} : ∀ {n : Nd}, NdCells w B cs n -> NdCells w' B' cs n
 | .mk k x b e, h => by
  obtain ⟨h0, nm, Ap, np, cp, Ab, cb, Ae, ce, v6, v7, v8, hc, hb, he⟩ := h;exact ⟨h0, nm, Ap, np, cp, Ab, cb, Ae, ce, v6, v7, v8, hc, NdsAt.more hB _ _ _ (NdsAt.keep hk _ _ _ hb), NdsAt.more hB _ _ _ (NdsAt.keep hk _ _ _ he)⟩
theorem NdsRow.keep {w w' : World} {B B' : Nat} (hB : B <= B') (hk : ∀ p : Addr, p.block < B -> w'.cell? p = w.cell? p) : ∀ {l : List Nd} {row : List Value}, NdsRow w B row l -> NdsRow w' B' row l
 | [], _, h => h
 | n :: r, row, h => by
  obtain ⟨cs, rest, rfl, hc, hr⟩ := h;exact ⟨cs, rest, rfl, hc.keep hB hk, NdsRow.keep hB hk hr⟩
theorem NdsRow.len {w : World} {B : Nat} : ∀ {l : List Nd} {row : List Value}, NdsRow w B row l -> row.length = l.length * 9
 | [], _, h => by rw [show _ = [] from h]; rfl
 | n :: r, row, h => by
  obtain ⟨cs, rest, rfl, hc, hr⟩ := h;rw [List.length_append, hc.len, hr.len, List.length_cons]; omega
theorem NdsRow.one {w : World} {B : Nat} : ∀ {l : List Nd} {row : List Value}, NdsRow w B row l -> ∀ u ∈ row, u.oneCell' = true
 | [], _, h => by rw [show _ = [] from h]; intro u hu; cases hu
 | n :: r, row, h => by
  obtain ⟨cs, rest, rfl, hc, hr⟩ := h;intro u hu;rcases List.mem_append.1 hu with h | h
  ·exact hc.one u h
  exact hr.one u h
theorem NdsRow.app {w : World} {B : Nat} {l2 : List Nd} {row2 : List Value} (h2 : NdsRow w B row2 l2) : ∀ {l : List Nd} {row : List Value}, NdsRow w B row l -> NdsRow w B (row ++ row2) (l ++ l2)
 | [], _, h => by rw [show _ = [] from h]; exact h2
 | n :: r, row, h => by
  obtain ⟨cs, rest, rfl, hc, hr⟩ := h;exact ⟨cs, rest ++ row2, by rw [List.append_assoc], hc, NdsRow.app h2 hr⟩
theorem NdCells.at_ {w : World} {B : Nat} {cs : List Value} {p : Addr} (hp : p.block < B) (hc : ∀ j u, cs[j]? = some u -> w.cell? (p.add j) = some u) : ∀ {n : Nd}, NdCells w B cs n -> NdAt w B p n
 | .mk k x b e, h => by
  obtain ⟨h0, nm, Ap, np, cp, Ab, cb, Ae, ce, v6, v7, v8, rfl, hb, he⟩ := h;have ea : ∀ j, p.add (j + 1) = ⟨p.block, p.off + (j + 1), none⟩ := fun j => Addr.add_succ' _ _
  unfold NdAt;refine ⟨⟨hp, h0⟩, hc 0 _ rfl, ?_, nm, Ap, np, cp, Ab, cb, Ae, ce, v6, v7, v8, ?_, ?_, ?_, ?_, ?_, ?_, ?_, hb, he⟩
  ·rw [<- ea 0]; exact hc 1 _ rfl
  ·rw [<- ea 1]; exact hc 2 _ rfl
  ·rw [<- ea 2]; exact hc 3 _ rfl
  ·rw [<- ea 3]; exact hc 4 _ rfl
  ·rw [<- ea 4]; exact hc 5 _ rfl
  ·rw [<- ea 5]; exact hc 6 _ rfl
  ·rw [<- ea 6]; exact hc 7 _ rfl
  rw [<- ea 7]; exact hc 8 _ rfl
theorem NdsRow.at_ {w : World} {B : Nat} {ad : Addr} (hp : ad.block < B) : ∀ {l : List Nd} {row : List Value} (i : Nat), NdsRow w B row l -> (∀ j u, row[j]? = some u -> w.cell? (ad.add (i * 9 + j)) = some u) -> NdsAt w B (some ad) i l
 | [], _, _, _, _ => by unfold NdsAt; trivial
 | n :: r, row, i, h, hc => by
  obtain ⟨cs, rest, rfl, hcs, hr⟩ := h;have hl := hcs.len;unfold NdsAt;refine ⟨⟨ad, rfl, hcs.at_ (by rw [block_of_add]; exact hp) fun j u hu => ?_⟩, NdsRow.at_ hp (i + 1) hr fun j u hu => ?_⟩
  ·rw [add_of_add];have hj := (List.getElem?_eq_some_iff.1 hu).1;exact hc j u (by rw [List.getElem?_append_left hj]; exact hu)
  have := hc (9 + j) u (by rw [List.getElem?_append_right (by omega), hl, show 9 + j - 9 = j by omega]; exact hu);rw [show (i + 1) * 9 + j = i * 9 + (9 + j) by omega];exact this
theorem ndsSz_app : ∀ (a b : List Nd), ndsSz (a ++ b) = ((ndsSz a).1 + (ndsSz b).1, (ndsSz a).2 + (ndsSz b).2)
 | [], b => by simp [ndsSz]
 | n :: r, b => by
  rw [List.cons_append, ndsSz, ndsSz_app r b, ndsSz];simp [Nat.add_assoc]
theorem ndsNum_app : ∀ (a b : List Nd), ndsNum (a ++ b) = ndsNum a + ndsNum b
 | [], b => by simp [ndsNum]
 | n :: r, b => by
  rw [List.cons_append, ndsNum, ndsNum_app r b, ndsNum];omega
def flatK (k : Int) : Bool := decide (k = 1) || decide (k = 2) || decide (k = 7)
def Nd.kind : Nd -> Int
 | .mk k _ _ _ => k
theorem flat1_any (k : Int) (x nm : ByteArray) (Ap : Option Addr) (np cp : Nat) (Ab : Option Addr) (nb cb : Nat) (Ae : Option Addr) (ne ce : Nat) (v6 v7 v8 : Int) (w : World) :
  Calls Tryz.prog 16 #[.agg #[.int .i64 k, .string x, .string nm, .slice Ap np cp, .slice Ab nb cb, .slice Ae ne ce, .int .i64 v6, .int .i64 v7, .int .i64 v8]] w fun e w' => e = .returned (.bool (!flatK k)) /\ Below w.heap.size w w' := by
 have hb : Below w.heap.size w (w.alloc (.cells #[.int .i64 k, .string x, .string nm, .slice Ap np cp, .slice Ab nb cb, .slice Ae ne ce, .int .i64 v6, .int .i64 v7, .int .i64 v8] 52)) := (Below.refl _ _).alloc (Nat.le_refl _) _
 by_cases h1 : k = 1
 ·subst h1;go_enter Tryz.func16, Tryz.ntmps16;go_wp2
  go_ret;exact ⟨by simp [flatK], hb⟩
 have b1 : (k == 1) = false := beq_eq_false_iff_ne.2 h1
 by_cases h2 : k = 2
 ·subst h2;go_enter Tryz.func16, Tryz.ntmps16;go_wp2
  go_ret;exact ⟨by simp [flatK], hb⟩
 have b2 : (k == 2) = false := beq_eq_false_iff_ne.2 h2
 by_cases h7 : k = 7
 ·subst h7;go_enter Tryz.func16, Tryz.ntmps16;go_wp2
  go_ret;exact ⟨by simp [flatK], hb⟩
 have b7 : (k == 7) = false := beq_eq_false_iff_ne.2 h7
 go_enter Tryz.func16, Tryz.ntmps16
 go_wp2
 go_ret
 exact ⟨by simp [flatK, h1, h2, h7], hb⟩
def UnAt (w : World) (B : Nat) (p : Addr) (l : List Nd) : Prop :=
 p.block < B /\ p.spot = none /\ ∃ cs : List Value, cs.length = 18 /\ cs.toArray.all (·.oneCell') = true /\ w.rangeAt p.block p.off cs /\ ∃ (Ab : Option Addr) (cb : Nat), cs[17]? = some (.slice Ab l.length cb) /\ NdsAt w B Ab 0 l
def UnsAt (w : World) (B : Nat) (A : Option Addr) (us : List (List Nd)) : Prop := ∀ k (h : k < us.length), ∃ ad, A = some ad /\ UnAt w B (ad.add (k * 18)) us[k]
theorem UnAt.keep {w w' : World} {B : Nat} (h : ∀ p : Addr, p.block < B -> w'.cell? p = w.cell? p) {p : Addr} {l : List Nd} (hu : UnAt w B p l) : UnAt w' B p l := by
 obtain ⟨h0, hsp, cs, h18, h1, hr, Ab, cb, h17, hb⟩ := hu
 exact ⟨h0, hsp, cs, h18, h1, fun j v hv => (h ⟨p.block, p.off + j, none⟩ h0).trans (hr j v hv), Ab, cb, h17, NdsAt.keep h l Ab 0 hb⟩
theorem UnsAt.keep {w w' : World} {B : Nat} (h : ∀ p : Addr, p.block < B -> w'.cell? p = w.cell? p) {A : Option Addr} {us : List (List Nd)} (hu : UnsAt w B A us) : UnsAt w' B A us := fun k hk => by
 obtain ⟨ad, e, hn⟩ := hu k hk
 exact ⟨ad, e, hn.keep h⟩
theorem uns_take (us : List (List Nd)) (k : Nat) (h : k < us.length) : ndsSz (us.take (k + 1)).flatten = ((ndsSz (us.take k).flatten).1 + (ndsSz us[k]).1, (ndsSz (us.take k).flatten).2 + (ndsSz us[k]).2) := by
 rw [List.take_succ_eq_append_getElem h, List.flatten_append, ndsSz_app]
 simp
theorem uns_le (us : List (List Nd)) (k : Nat) : (ndsSz (us.take k).flatten).1 <= (ndsSz us.flatten).1 /\ (ndsSz (us.take k).flatten).2 <= (ndsSz us.flatten).2 := by
 have h : us.flatten = (us.take k).flatten ++ (us.drop k).flatten := by rw [<- List.flatten_append, List.take_append_drop]
 rw [h, ndsSz_app]
 simp only; omega
theorem uns_num : ∀ (us : List (List Nd)) (k : Nat) (h : k < us.length), ndsNum us[k] <= ndsNum us.flatten
 | l :: r, 0, _ => by rw [List.flatten_cons, ndsNum_app]; simp
 | l :: r, k + 1, h => by
  have := uns_num r k (by simpa using h);rw [List.flatten_cons, ndsNum_app, List.getElem_cons_succ]; omega
theorem below_cellsSet {B : Nat} {a : World} (b : Nat) (hb : B <= b) : ∀ (vs : List Value) (o : Nat) {w : World}, Below B a w -> Below B a (w.setCells b o vs)
 | [], _, _, h => h
 | v :: r, o, _, h => below_cellsSet b hb r (o + 1) (h.setCell (p := ⟨b, o, none⟩) hb v)
theorem row_there (w : World) (C : Array Value) (t : TypeId) (n : Nat) (h : C.size = n) : (w.alloc (.cells C t)).there w.heap.size 0 n := fun j hj => by
 rw [Nat.zero_add]
 refine ⟨?_, World.frozen?_alloc_new w C t j⟩
 rw [World.cell?_alloc_mark, Array.getElem?_eq_getElem (by omega)]; rfl
theorem row_laid (w : World) (C : Array Value) (t : TypeId) (cs : List Value) (h : C.size = cs.length) (j : Nat) (v : Value) (hv : cs[j]? = some v) : ((w.alloc (.cells C t)).setCells w.heap.size 0 cs).cell? ⟨w.heap.size, j, none⟩ = some v := by
 have := World.rangeAt_setCells_same (w.alloc (.cells C t)) w.heap.size 0 cs (row_there w C t _ h) j v hv
 rwa [Nat.zero_add] at this
theorem row_below (w : World) (C : Array Value) (t : TypeId) (cs : List Value) : Below w.heap.size w ((w.alloc (.cells C t)).setCells w.heap.size 0 cs) := below_cellsSet _ (Nat.le_refl _) _ _ (alloc_plain _ _)
theorem units_any (us : List (List Nd)) (hn : us.length <= 1048576) (hm : ndsNum us.flatten <= 1048576) (hs1 : (ndsSz us.flatten).1 <= 1048576) (hs2 : (ndsSz us.flatten).2 <= 1048576) (A : Option Addr) (cap : Nat) (w : World) (B : Nat) (hR : UnsAt w B A us) (hB : B <= w.heap.size) :
  Calls Tryz.prog 9 #[.slice A us.length cap] w fun e w' => e = .returned (cV (ndsSz us.flatten)) /\ Below w.heap.size w w' := by
 have HR := hid hR
 have Hle := hid (uns_le us)
 have Htk := hid (uns_take us)
 have Hnum := hid (uns_num us)
 have H0 := hid fW_zero
 clear hR
 obtain ⟨n, hnn⟩ := xE us.length
 have Hn := hid hnn
 rw [hnn] at hn ⊢
 clear hnn
 go_enter Tryz.func9, Tryz.ntmps9
 go_wp2
 go_loopw [3, 8] (fun c i wr => ∃ k : Nat, k <= n /\ i = .int .i64 k /\ c = cV (ndsSz (us.take k).flatten) /\ Below w.heap.size w wr) (fun _ i _ => n - (intOf i).toNat)
 case atStart => exact ⟨0, Nat.zero_le _, rfl, by rw [List.take_zero]; show _ = Value.complex .f64 (fW 0) (fW 0); rw [H0.out], Below.refl _ _⟩
 obtain ⟨k, hk, rfl, rfl, hbw⟩ := hrel
 by_cases hlt : decide (k < n) = true
 ·have hkl : k < us.length := by rw [Hn.out]; exact of_decide_eq_true hlt
  obtain ⟨ad, rfl, hnd⟩ := (HR.out.keep (w' := wr) (fun p hp => (hbw.mono hB).cell hp)) k hkl;have htk := Htk.out k hkl;have hle := Hle.out (k + 1);have hnum := Hnum.out k hkl;rw [htk] at hle;obtain ⟨l, hl⟩ := xE us[k];rw [hl] at hnd htk hle hnum;obtain ⟨h0, hsp, cs, h18, h1, hr, Ab, cb, h17, hb⟩ := hnd;obtain ⟨b, o, hbo⟩ : ∃ b o, ad.add (k * 18) = ⟨b, o, none⟩ := ⟨_, _, by rw [<- hsp]⟩
  rw [hbo] at h0 hr;have HR1 := hid hr;have HC1 := hid h1;have HC17 := hid h17;have HI : Hid ((Tryz.prog.info? 35).map (·.size) = some cs.length) := hid (by rw [h18]; kernel_rfl);have H18 := hid h18;clear hr h1 h17 h18;simp only at hle;have Hbb := hid (fun (W : World) (h : Below wr.heap.size wr W) => nodes_anyZ l (by omega) (by omega) (by omega) Ab cb W B (NdsAt.keep (fun p hp => (h.mono (by have := hbw.size; omega)).cell hp) l Ab 0 hb) (by have := hbw.size; have := h.size; omega));obtain ⟨nb, hnb'⟩ := xE l.length;rw [hnb'] at HC17 Hbb;unfold RNds at Hbb;obtain ⟨q, hq⟩ := xE (ndsSz (us.take k).flatten);obtain ⟨p, hp⟩ := xE (ndsSz l);rw [hq, hp] at htk hle;rw [hp] at Hbb;rw [hq];have e1 := fW_add (q.1 : Int) (p.1 : Int) (by omega) (by omega) (by omega);have e2 := fW_add (q.2 : Int) (p.2 : Int) (by omega) (by omega) (by omega);have e3 : Hid (cV (ndsSz (us.take (k + 1)).flatten) = .complex .f64 (fW ((q.1 : Int) + (p.1 : Int))) (fW ((q.2 : Int) + (p.2 : Int)))) := hid (by rw [htk]; unfold cV; simp);simp only [cV] at Hbb;have e0 : cV q = .complex .f64 (fW (q.1 : Int)) (fW (q.2 : Int)) := rfl;rw [e0];generalize fW (q.1 : Int) = a1 at e1 ⊢;generalize fW (q.2 : Int) = a2 at e2 ⊢;generalize fW (p.1 : Int) = b1 at e1 Hbb;generalize fW (p.2 : Int) = b2 at e2 Hbb;generalize fW ((q.1 : Int) + (p.1 : Int)) = c1 at e1 e3;generalize fW ((q.2 : Int) + (p.2 : Int)) = c2 at e2 e3;have hadd := run_cadd' (P := Tryz.prog) 43 a1 a2 b1 b2 c1 c2 e1 e2;clear e0 e1 e2 hq hp htk hle hnum hl hkl hb hnb' h0;clear hs1 hs2 hm hB
  go_wp2_with (first
   | refine wpList_load_mid rfl 35 _ rfl b o rfl cs _ HR1.out Tryz.underlying35 rfl HI.out ?_
   | (refine wpList_store_mid rfl 35 _ _ rfl wr.heap.size 0 cs.toArray rfl rfl (row_there wr _ _ _ (by simp [H18.out])) HI.out HC1.out ?_
      generalize hW : World.setCells _ _ _ _ = W;have hal : Below wr.heap.size wr W := hW ▸ row_below wr _ _ _;have hc17 : W.cell? ⟨wr.heap.size, 17, none⟩ = some (.slice Ab nb cb) := hW ▸ row_laid wr _ _ _ (by simp [H18.out]) 17 _ HC17.out;clear hW)
   | fail)
  rotate_left
  ·exact absurd (of_decide_eq_true hlt) (by assumption)
  refine (Hbb.out _ hal).mono ?_;rintro e' w' ⟨rfl, hb'⟩;have hb2 : Below wr.heap.size wr w' := then_ hal hb';clear hb' Hbb HR Hle Htk Hnum;go_wp2
  go_roundw
  case rel => exact ⟨k + 1, by omega, by go_num, e3.out.symm, hbw.trans (hb2.mono hbw.size)⟩
  simp [intOf]; omega
 obtain rfl : k = n := by have : ¬ k < n := fun h => hlt (decide_eq_true h)
                          omega
 clear hlt
 have hall : Hid (us.take k = us) := hid (List.take_of_length_le (by rw [Hn.out]; exact Nat.le_refl _))
 rw [hall.out]
 unfold cV
 go_wp2
 go_ret
 exact ⟨rfl, hbw⟩
theorem PK.le {base pb : Nat} {I : List It} {ad0 : Addr} {c0 k sz : Nat} {vd : Value} {w : World} (h : PK base pb I ad0 c0 k sz vd w) : k <= I.length := by
 obtain ⟨AL, cL, _, h2⟩ := h
 exact h2.2
theorem both_any (base pb : Nat) (I : List It) (ad0 : Addr) (c0 : Nat) : ∀ n k, I.length < k + n -> (∀ deep, 1 <= deep -> deep <= 16 -> NodesC base pb I ad0 c0 deep k) /\ (∀ deep, deep <= 16 -> BlockC base pb I ad0 c0 deep k)
 | 0, k, h => ⟨fun _ _ _ sz vd m w _ hp _ _ _ => absurd hp.le (by omega), fun _ _ _ _ _ _ _ _ _ _ _ _ _ _ _ hp _ _ => absurd hp.le (by omega)⟩
 | n + 1, k, h => by
  have ih := fun k' (hk : k < k') => both_any base pb I ad0 c0 n k' (by omega)
  have hN : ∀ deep, 1 <= deep -> deep <= 16 -> NodesC base pb I ad0 c0 deep k := fun deep h1 h2 =>
   nodes_any base pb I ad0 c0 deep k (by omega) (fun k' hk => (ih k' hk).2 deep h2) (fun h0 => by omega)
  refine ⟨hN, ?_⟩;have : ∀ j deep, deep + j = 16 -> BlockC base pb I ad0 c0 deep k := by
   intro j
   induction j with
   | zero => exact fun deep hd => block_any base pb I ad0 c0 deep k (by omega) (fun h => by omega) (fun h => by omega)
   | succ j hj =>
    intro deep hd;refine block_any base pb I ad0 c0 deep k (by omega) (fun _ k' hk => ?_) (fun _ k' hk => ?_)
    ·rcases Nat.eq_or_lt_of_le hk with rfl | hk
     ·exact hN (deep + 1) (by omega) (by omega)
     exact (ih k' hk).1 (deep + 1) (by omega) (by omega)
    rcases Nat.eq_or_lt_of_le hk with rfl | hk
    ·exact hj (deep + 1) (by omega)
    exact (ih k' hk).2 (deep + 1) (by omega)
  exact fun deep hd => this (16 - deep) deep (by omega)
theorem top_any (base pb : Nat) (I : List It) (ad0 : Addr) (c0 : Nat) : NodesC base pb I ad0 c0 0 0 :=
 nodes_any base pb I ad0 c0 0 0 (by omega) (fun k _ => (both_any base pb I ad0 c0 (I.length + 1) k (by omega)).2 0 (by omega)) (fun _ k _ => define_any base pb I ad0 c0 k ((both_any base pb I ad0 c0 (I.length + 1) k (by omega)).1 1 (by omega) (by omega)))
def PParse (w : World) (e : Ending) (w' : World) : Prop := ∃ (A : Option Addr) (c : Nat) (ds : List Df) (p er : Int), e = .returned (.tuple #[.slice A ds.length c, .int .i64 p, .int .i64 er]) /\ RowsV w' (fun _ => True) 2 A 0 (ds.map Df.row) /\ (∀ d ∈ ds, tnsOk d.b /\ tnsNum d.b <= 1024) /\ ds.length <= 9223372036854775807 /\ Below w.heap.size w w'
theorem DfIn.read {base : Nat} {vd : Value} {ds : List Df} {w : World} (h : DfIn base vd ds w) : ∃ A c, vd = .slice A ds.length c /\ RowsV w (fun _ => True) 2 A 0 (ds.map Df.row) /\ ds.length <= 9223372036854775807 := by
 obtain ⟨A, c, e, hr⟩ := h.1.rowsV
 rw [List.length_map] at e
 refine ⟨A, c, e, RowsV.to hr fun _ _ _ => trivial, ?_⟩
 obtain ⟨xs, h1, _⟩ := h.1
 rw [List.length_map] at h1
 rcases h1.2 with ⟨_, h0⟩ | ⟨g, cap, cur, _, _, _, h2, h3, _⟩
 ·omega
 unfold maxLen at h3
 omega
theorem rowsV_nil {w : World} {S : Nat -> Prop} {sz : Nat} {A : Option Addr} : RowsV w S sz A 0 [] := by unfold RowsV; trivial
theorem parse20_any (s : ByteArray) (w : World) (hs : s.size <= 1048576) : Calls Tryz.prog 13 #[.string s] w (PParse w) := by
 have HI := hid (items_any s w hs)
 go_enter Tryz.func13, Tryz.ntmps13
 go_upto_region 2 with (go_at_call 23; refine HI.out.mono ?_; rintro e w1 ⟨A, c, its, p, er, rfl, hc, hd, hT, hl, hmin, hb1⟩)
 obtain ⟨q, hq⟩ := xE (er != 0)
 have hs1 := hb1.size
 obtain ⟨A', c', hA', hrows⟩ := DtV.slice hd (n := its.length) (by rw [List.length_map])
 cases hA'
 have Hrows := hid hrows
 have HT := hid (show itT its <= 16384 by omega)
 have Hl := hid (show its.length <= 16385 by omega)
 have Hc := hid hc
 clear hd hrows hT hl hmin HI hc
 cases q
 ·obtain ⟨ad0, had0⟩ : ∃ ad0, 0 < its.length -> A = some ad0 := by
   by_cases h : 0 < its.length
   ·obtain ⟨ad, e, _⟩ := RowsV.get Hrows.out h;exact ⟨ad, fun _ => e⟩
   exact ⟨⟨0, 0, none⟩, fun h' => absurd h' h⟩
  have Had0 := hid had0;clear had0;go_upto_region 5 with fail
  obtain ⟨wa, hwa⟩ := xE (w1.alloc (.cells #[.string ⟨#[]⟩, .slice none 0 0] 75));have ha : Below w1.heap.size w1 wa := by rw [<- hwa]; exact alloc_below _ _
  have hDb : Blk wa w1.heap.size 75 #[.string ⟨#[]⟩, .slice none 0 0] := by rw [<- hwa]; exact Blk.new _ _ _
  have hsa : wa.heap.size = w1.heap.size + 1 := by rw [<- hwa]; simp
  rw [hwa];obtain ⟨wb, hwb⟩ := xE (wa.alloc (.cells #[.slice A its.length c, .int .i64 0, .int .i64 (s.size : Int), .slice (some ⟨w1.heap.size, 0, none⟩) 1 1, .int .i64 0, .int .i64 0] 77));have hab : Below wa.heap.size wa wb := by rw [<- hwb]; exact alloc_below _ _
  have hPb : Blk wb (w1.heap.size + 1) 77 #[.slice A its.length c, .int .i64 0, .int .i64 (s.size : Int), .slice (some ⟨w1.heap.size, 0, none⟩) 1 1, .int .i64 0, .int .i64 0] := by rw [<- hwb]; exact Blk.new_at _ _ hsa _ _
  rw [hwb];clear hwa hwb;have h1b : Below w1.heap.size w1 wb := ha.trans (hab.mono ha.size);have HPK : Hid (PK w.heap.size (w1.heap.size + 1) its ad0 c 0 0 (.slice (some ⟨w1.heap.size, 0, none⟩) 1 1) wb) := hid ⟨A, c, ⟨_, _, _, hPb, by omega⟩, fun h => ⟨by rw [Had0.out h, Nat.zero_mul, addr_zero], rfl⟩, Nat.zero_le _⟩;have HIt : Hid (IAt w.heap.size its ad0 c wb) := hid ⟨by
   by_cases h : 0 < its.length
   ·have h2 := Hrows.out;rw [Had0.out h] at h2;exact (RowsN.below h2 h1b)
   rw [List.eq_nil_of_length_eq_zero (l := its) (by omega)]; exact rowsV_nil, Hc.out, HT.out, Hl.out⟩
  have hDb2 := hDb.below hab hDb.lt;have HDf : Hid (DfIn w.heap.size (.slice (some ⟨w1.heap.size, 0, none⟩) 1 1) [Df.mk ⟨#[]⟩ []] wb) := hid ⟨⟨[.string ⟨#[]⟩, .slice none 0 0], ⟨rfl, .inr ⟨w1.heap.size, 1, _, rfl, hs1, hDb2, Nat.le_refl _, by unfold maxLen; omega, rfl, rfl⟩⟩, ⟨_, _, rfl, DtV.str, _, _, rfl, DtV.none_, rfl⟩, fun r hr => by rw [List.mem_singleton.1 hr]; rfl⟩, fun d hd => by rw [List.mem_singleton.1 hd]; exact ⟨by simp [tnsOk], by simp [tnsNum]⟩⟩;have HNo := hid (top_any w.heap.size (w1.heap.size + 1) its ad0 c 0 _ 1 wb (by omega) HPK.out HIt.out (fun _ => ⟨_, HDf.out, Nat.le_refl _, Nat.zero_lt_one⟩) (by omega));rw [show ((0 : Nat) : Int) = 0 from rfl] at HNo;have Hbb := hid (hb1.trans (h1b.mono hs1));clear hab ha hPb hDb hDb2 h1b HPK HIt HDf hsa;go_upto_if 36 with (go_at_call 24; refine HNo.out.mono ?_; rintro e w3 ⟨A1, c1, ts, B1, c3, pw3, b, k', sz', vd', rfl, hd4, hok4, hb4, hk4, hs4, hm4, hp4, ht4, _, hdf4⟩)
  obtain ⟨AL4, cL4, hp4, _⟩ := hp4;obtain ⟨w5, hw5⟩ := xE (w3.alloc (.cells #[.slice B1 pw3.ws.length c3, .string pw3.hd, .int .i64 pw3.pl] 80));have hal : Below w3.heap.size w3 w5 := by rw [<- hw5]; exact alloc_below _ _
  have HP5 := hid (hp4.below hal);have HB5 := hid (Hbb.out.trans ((ht4.to_below Hbb.out.size).trans (hal.mono (Nat.le_trans Hbb.out.size ht4.size))));have HD5 := hid (hd4.below hal);rw [hw5];cases b
  ·obtain ⟨len, at_, er4, hPB, _⟩ := HP5.out;unfold PBk at hPB;have c4 := (hPB.cell 4).trans rfl;have c5 := (hPB.cell 5).trans rfl;clear hPB hw5 hal hp4 hd4 hok4 hb4 ht4 hdf4 HP5 HD5;go_upto_region 7 with fail
   go_region
   all_goals (
    go_wp2_with fail
    go_ret3
    exact ⟨none, 0, [], _, _, rfl, rowsV_nil, (fun _ h => by cases h), Nat.zero_le _, HB5.out.drew⟩)
  have hsb := Hbb.out.size;obtain ⟨ds, hdf, hds0⟩ := hdf4 trivial rfl;have HDf : Hid (DfIn w.heap.size vd' ds w5) := hid ⟨hdf.1.below hal, hdf.2⟩;obtain ⟨nd, hnd⟩ := xE ds.length;obtain ⟨g9, cap9, hv9, hg9, _⟩ := (show ∃ g cap, vd' = .slice (some ⟨g, 0, none⟩) nd cap /\ w.heap.size <= g /\ g < w5.heap.size by
   obtain ⟨xs, h1, _⟩ := HDf.out.1;rw [List.length_map, hnd] at h1;exact h1.form (by omega))
  subst hv9;obtain ⟨_, _, p3, _, _⟩ := HP5.out.cells;obtain ⟨xs, h1, _⟩ := HDf.out.1;rw [List.length_map, hnd] at h1;have hxl := h1.1;have f1 : w5.frozen? ⟨g9, 1, none⟩ = false := h1.frozenAt 1;obtain ⟨v1, hv1⟩ : ∃ v, w5.cell? ⟨g9, 1, none⟩ = some v := by
   rw [h1.cellAt 1 (by omega)];exact ⟨_, List.getElem?_eq_getElem (by omega)⟩
  have hndi : (0 : Int) < (nd : Int) := by omega
  have Hnd := hid hnd;have H1 := hid h1;have Hb4 := hid hb4;have Hok4 := hid hok4;clear h1 hxl hnd hdf hw5 hal hp4 hd4 ht4 hdf4 hb4 hok4;go_wp2_with fail
  go_ret3
  obtain ⟨d0, dr, rfl⟩ : ∃ d0 dr, ds = d0 :: dr := by
   cases ds with
   | nil => cases hds0
   | cons d0 dr => exact ⟨d0, dr, rfl⟩
  have hty : ∃ cs, w5.heap[g9]? = some (.cells cs 75 (0, 0)) := HDf.out.1.typed g9 rfl;have hset := HDf.out.1.set_ (i := 0) (j := 1) (r := d0.row) rfl (by decide) (u := .slice A1 ts.length c1) (d := .rows 9 (tnRows ts)) (DtV.to HD5.out fun b hb _ => ⟨hb.up (Nat.le_refl _) (by omega), fun e => by
   injection e with e
   subst e;obtain ⟨cs, hc⟩ := hty;rcases hb with hb | ⟨_, cs', t', fr, e1, e2⟩
   ·omega
   rw [hc] at e1;injection e1 with e1
   injection e1 with _ e3
   rw [<- e3] at e2; cases e2⟩)
  have hD9 : DfIn w.heap.size (.slice (some ⟨g9, 0, none⟩) nd cap9) (Df.mk d0.nm ts :: dr) (w5.setCell ⟨g9, 1, none⟩ (.slice A1 ts.length c1)) := ⟨hset, fun d hd => by
   rcases List.mem_cons.1 hd with rfl | hd
   ·exact ⟨Hok4.out, by have := (Hb4.out trivial).1; show tnsNum ts <= 1024; omega⟩
   exact HDf.out.2 d (List.mem_cons_of_mem _ hd)⟩
  obtain ⟨A9, c9, e9, hr9, hl10⟩ := hD9.read;have hl9 : (Df.mk d0.nm ts :: dr).length = nd := Hnd.out;rw [hl9] at e9;injection e9 with e91 _ e93
  subst e91 e93;exact ⟨some ⟨g9, 0, none⟩, cap9, Df.mk d0.nm ts :: dr, _, _, by rw [hl9]; rfl, hr9, hD9.2, hl10, HB5.out.trans ((Below.refl _ _).setCell (p := ⟨g9, 1, none⟩) hg9 _)⟩
 go_wp2_with fail
 go_ret3
 exact ⟨none, 0, [], _, _, rfl, rowsV_nil, (fun _ h => by cases h), Nat.zero_le _, hb1⟩
theorem toList_nil : (⟨#[]⟩ : ByteArray).toList = [] := by
 unfold ByteArray.toList
 unfold ByteArray.toList.loop
 rfl
theorem unitC (pw : Nat) (vdf : Value) (ds : List Df) : ∀ k d, d + k = 32 -> UnC pw vdf ds d
 | 0, d, h => unit25_any pw vdf ds d fun h' => absurd h' (by omega)
 | k + 1, d, h => unit25_any pw vdf ds d fun _ => noC (unitC pw vdf ds k (d + 1) (by omega))
def UnRow (g : Nat) (w : World) : Prop := ∃ (r : List Value) (A : Option Addr) (m c : Nat) (L : List Tn) (rows : List (List Value)) (pw : Nat), pw <= w.heap.size /\ UnitRow r /\ r[17]? = some (.slice A m c) /\ w.rangeAt g 0 r /\ w.ownsRow pw 52 9 (.slice A m c) rows.length rows.flatten /\ rows.length <= 1024 /\ (∀ q ∈ rows, NRow pw w L q) /\ tnsOk L /\ ∀ t ∈ L, t.may
def UnOk (vu : Value) (w : World) : Prop := ∃ (n cap g : Nat), vu = .slice (some ⟨g, 0, none⟩) n cap /\ n <= 64 /\ g < w.heap.size /\ (0 < n -> UnRow g w)
theorem UnOk.below {vu : Value} {w w' : World} (h : UnOk vu w) (hb : Below w.heap.size w w') : UnOk vu w' := by
 obtain ⟨n, cap, g, h1, h3, h4, hh⟩ := h
 refine ⟨n, cap, g, h1, h3, Nat.lt_of_lt_of_le h4 hb.size, fun hn => ?_⟩
 obtain ⟨r, A, m, c, L, rows, pw, h5, h6, h7, h8, h9, h10, h11, h12, h13⟩ := hh hn
 exact ⟨r, A, m, c, L, rows, pw, Nat.le_trans h5 hb.size, h6, h7, fun j v hv => (hb.cell (p := ⟨g, 0 + j, none⟩) h4).trans (h8 j v hv), own_below h9 hb, h10, fun q hq => (h11 q hq).keep (hb.mono h5), h12, h13⟩
theorem UnOk.of {pw n : Nat} {vdf vu vdo vme vwa : Value} {at_ er : Int} {w : World} {g cap : Nat} {out : Value} {L : List Tn} {rows : List (List Value)} (h : WIn pw vdf n 0 w vu vdo vme vwa at_ er) (hvu : vu = .slice (some ⟨g, 0, none⟩) n cap) (hc : w.cell? ⟨g, 17, none⟩ = some out) (ho : w.ownsRow pw 52 9 out rows.length rows.flatten) (hl : rows.length <= L.length) (hr : ∀ r ∈ rows, NRow pw w L r) (hL : L.length <= 1024) (hk : tnsOk L) (hm : ∀ t ∈ L, t.may) : UnOk vu w := by
 subst hvu
 obtain ⟨A, c, rfl⟩ := own_shape ho
 obtain ⟨urows, h1, h2, h3⟩ := h.un
 refine ⟨n, cap, g, rfl, h.n_le, (h1.lt g rfl).2, fun hn => ?_⟩
 have hul : 0 < urows.length := by omega
 have hget : ∀ i, i < 18 -> w.cell? ⟨g, i, none⟩ = (urows[0])[i]? := fun i hi => by
  rw [h1.cellAt i (by omega)];have := flatten_get (sz := 18) (j := 0) hi (fun q hq => (h3 q hq).len) (List.getElem?_eq_getElem hul);rw [Nat.zero_mul, Nat.zero_add] at this;exact this
 refine ⟨urows[0], A, rows.length, c, L, rows, pw, Nat.le_of_lt h.lt, h3 _ (List.getElem_mem hul), (hget 17 (by omega)).symm.trans hc, fun j v hv => ?_, ho, by omega, hr, hk, hm⟩
 have hj : j < 18 := by have := (List.getElem?_eq_some_iff.1 hv).1; rw [(h3 _ (List.getElem_mem hul)).len] at this; exact this
 rw [Nat.zero_add, hget j hj]; exact hv
def PInf (w : World) (e : Ending) (w' : World) : Prop := ∃ (vu : Value) (p er : Int), e = .returned (.tuple #[vu, .int .i64 p, .int .i64 er]) /\ (vu = .slice none 0 0 ∨ UnOk vu w') /\ Below w.heap.size w w'
theorem infer25_any (ds : List Df) (n : Nat) (hn : ds.length = n) (hz : n <= 9223372036854775807) (A : Option Addr) (c : Nat) (w : World) (hok : ∀ d ∈ ds, tnsOk d.b /\ tnsNum d.b <= 1024) (hr : RowsV w (fun _ => True) 2 A 0 (ds.map Df.row)) : Calls Tryz.prog 14 #[.slice A n c] w (PInf w) := by
 have HC := hid (check22_any ds n hn hz A c w hok hr)
 have Hr := hid hr
 have Hn := hid hn
 have Hok := hid hok
 clear hr hn hok
 go_enter Tryz.func14, Tryz.ntmps14
 go_upto_region 2 with (go_at_call 25; refine HC.out.mono ?_; rintro e w1 ⟨p, er, rfl, hck, hb1⟩)
 have Hb1 := hid hb1
 have Hck := hid hck
 clear hb1 hck HC
 obtain ⟨W1, rfl⟩ := xS w1
 obtain ⟨qe, hqe⟩ := xE (er != 0)
 cases qe
 case true =>
  have he0 : er ≠ 0 := bne_iff_ne.1 hqe;go_wp2_with fail
  (try simp only [Exit.inBlock, Exit.then]);go_ret3
  exact ⟨_, _, _, rfl, .inl rfl, Hb1.out⟩
 have he0 : er = 0 := by simpa using hqe
 obtain ⟨⟨d0, dr, hds, hnm⟩, hdk⟩ := Hck.out he0
 have hfd : findD ds ⟨#[]⟩ 0 = ((0 : Nat) : Int) := by
  rw [hds, findD];have e1 : d0.nm.toList = (⟨#[]⟩ : ByteArray).toList := by
   have := List.isEmpty_iff.1 hnm;rw [this]; exact toList_nil.symm
  rw [e1];simp
 obtain ⟨dnm, L⟩ := d0
 have hd0 : (⟨dnm, L⟩ : Df) ∈ ds := by rw [hds]; simp
 have hdi : ∃ x, ds[0]? = some ⟨x, L⟩ := ⟨dnm, by rw [hds]; rfl⟩
 obtain ⟨hLk, hLn⟩ := Hok.out _ hd0
 obtain ⟨hLm, hLd⟩ := hdk _ hd0
 simp only at hLk hLn hLm hLd
 have hLl : L.length <= 1024 := by have := tnsNum_len L; omega
 have hDs : ∀ (W : World), Below W1.heap.size W1 W -> DsAt W1.heap.size (.slice A n c) ds W := fun W hb => by
  refine ⟨⟨A, c, by rw [Hn.out], ?_⟩, fun d hd => ⟨(Hok.out d hd).1, (Hok.out d hd).2, (hdk d hd).1, (hdk d hd).2⟩, by rw [Hn.out]; exact hz⟩;exact ((Hr.out.below Hb1.out).to (S' := fun b => b < W1.heap.size) fun b _ hb => hb).below hb
 have HDs := hid hDs
 have Hfd := hid hfd
 have Hdi := hid hdi
 have HL := hid (And.intro hLk (And.intro hLm hLl))
 clear hDs hfd hdi hLk hLn hLm hLd hdk hds hnm hd0 hLl Hck
 go_upto_region 4 with fail
 refine wp_region_lit ?_
 refine mv (.slice A n c) ?_
 refine mv (.agg #[.slice A n c, .slice none 0 0, .slice none 0 0, .slice none 0 0, .slice none 0 0, .int .i64 0, .int .i64 0, .int .i64 0]) ?_
 refine wpl_val (some 22) (v := .pointer (some ⟨W1.heap.size, 0, none⟩)) (w' := W1.alloc (.cells #[.slice A n c, .slice none 0 0, .slice none 0 0, .slice none 0 0, .slice none 0 0, .int .i64 0, .int .i64 0, .int .i64 0] 88)) rfl rfl (by go_simp) ?_
 simp only [Act.put, aQ, aZ, aC]
 refine mv (.pointer (some ⟨W1.heap.size, 0, none⟩)) ?_
 refine wpList_nil ?_
 (try simp only [Exit.then])
 have hb2 : Below W1.heap.size W1 (W1.alloc (.cells #[.slice A n c, .slice none 0 0, .slice none 0 0, .slice none 0 0, .slice none 0 0, .int .i64 0, .int .i64 0, .int .i64 0] 88)) := alloc_below _ _
 have HW2 : Hid (WIn W1.heap.size (.slice A n c) 0 0 (W1.alloc (.cells #[.slice A n c, .slice none 0 0, .slice none 0 0, .slice none 0 0, .slice none 0 0, .int .i64 0, .int .i64 0, .int .i64 0] 88)) (.slice none 0 0) (.slice none 0 0) (.slice none 0 0) (.slice none 0 0) 0 0) := hid ⟨Blk.new _ _ _, ⟨[], World.ownsRow_nil _ _ _ _, rfl, fun _ k => by cases k⟩, ⟨[], World.ownsRow_nil _ _ _ _, fun _ k => by cases k⟩, ⟨[], World.ownsRow_nil _ _ _ _, fun _ k => by cases k⟩, ⟨[], World.ownsRow_nil _ _ _ _, fun _ k => by cases k⟩, fun g k => by simp [Value.ownBlock] at k, Nat.zero_le _, Nat.zero_le _⟩
 have HD2 := hid (HDs.out _ hb2)
 have Hb2 := hid (Hb1.out.trans (hb2.mono Hb1.out.size))
 have hpw : w.heap.size <= W1.heap.size := Hb1.out.size
 obtain ⟨W2, hW2⟩ := xE (W1.alloc (.cells #[.slice A n c, .slice none 0 0, .slice none 0 0, .slice none 0 0, .slice none 0 0, .int .i64 0, .int .i64 0, .int .i64 0] 88))
 rw [hW2] at HW2 HD2 Hb2 ⊢
 obtain ⟨pw, hpwe⟩ := xE W1.heap.size
 rw [hpwe] at HW2 HD2 hpw ⊢
 clear hW2 hb2 HDs hpwe Hb1 Hr Hok
 have HU := hid (unitC pw (.slice A n c) ds 32 0 (by omega) ⟨#[]⟩ ⟨0, ⟨#[]⟩, ⟨#[]⟩, 0, ⟨#[]⟩, ⟨#[]⟩, 0, ⟨#[]⟩⟩ 0 0 0 L W2 st_zero ⟨_, _, _, _, _, _, HW2.out⟩ HD2.out Hfd.out Hdi.out)
 go_upto_region 5 with fail
 refine wp_region_lit ?_
 refine mv (.pointer (some ⟨pw, 0, none⟩)) ?_
 refine mv (.agg #[.int .i64 0, .string ⟨#[]⟩, .string ⟨#[]⟩, .int .u8 0, .string ⟨#[]⟩, .string ⟨#[]⟩, .int .i64 0, .string ⟨#[]⟩]) ?_
 refine wpl_enter (some 26) rfl rfl (by go_simp; rfl) HU.out ?_
 rintro e w3 ⟨k, s2, b2, rfl, hs2, ht2, hx2, hb2⟩
 refine ⟨_, rfl, ?_⟩
 simp only [Act.put, aQ, aZ, aC]
 refine mv (.tuple #[.int .i64 (k : Int), s2.v, .bool b2]) ?_
 refine mv (.int .i64 (k : Int)) ?_
 refine mv (.agg s2.l.toArray) ?_
 refine mv (.bool b2) ?_
 refine wpl_val (some 9) (v := .pointer (some ⟨w3.heap.size, 0, none⟩)) (w' := w3.alloc (.cells #[.int .i64 0, .string ⟨#[]⟩, .string ⟨#[]⟩, .int .u8 0, .string ⟨#[]⟩, .string ⟨#[]⟩, .int .i64 0, .string ⟨#[]⟩] 32)) rfl rfl (by go_simp) ?_
 simp only [Act.put, aQ, aZ, aC]
 refine mv (.int .i64 (k : Int)) ?_
 have hB9 : Blk (w3.alloc (.cells #[.int .i64 0, .string ⟨#[]⟩, .string ⟨#[]⟩, .int .u8 0, .string ⟨#[]⟩, .string ⟨#[]⟩, .int .i64 0, .string ⟨#[]⟩] 32)) w3.heap.size 32 #[.int .i64 0, .string ⟨#[]⟩, .string ⟨#[]⟩, .int .u8 0, .string ⟨#[]⟩, .string ⟨#[]⟩, .int .i64 0, .string ⟨#[]⟩] := Blk.new _ _ _
 refine st s2.l hB9 ?_
 refine mv (.bool b2) ?_
 refine wpList_nil ?_
 (try simp only [Exit.then])
 have hal : Below w3.heap.size w3 (w3.alloc (.cells #[.int .i64 0, .string ⟨#[]⟩, .string ⟨#[]⟩, .int .u8 0, .string ⟨#[]⟩, .string ⟨#[]⟩, .int .i64 0, .string ⟨#[]⟩] 32)) := alloc_below _ _
 have hb4 : Below w3.heap.size w3 ((w3.alloc (.cells #[.int .i64 0, .string ⟨#[]⟩, .string ⟨#[]⟩, .int .u8 0, .string ⟨#[]⟩, .string ⟨#[]⟩, .int .i64 0, .string ⟨#[]⟩] 32)).setCells w3.heap.size 0 s2.l) := by
  obtain ⟨e1, e2, e3, e4⟩ := setCells_same (g := w3.heap.size) s2.l 0 (w3.alloc (.cells #[.int .i64 0, .string ⟨#[]⟩, .string ⟨#[]⟩, .int .u8 0, .string ⟨#[]⟩, .string ⟨#[]⟩, .int .i64 0, .string ⟨#[]⟩] 32));exact hal.trans ⟨e1, e2, e3, Nat.le_of_eq e4.symm, fun k hk => setCells_far s2.l 0 _ (by omega)⟩
 have HB9 := hid (hB9.put (vs := s2.l) rfl)
 have hlow : Below w.heap.size w w3 := Hb2.out.trans ((ht2.to_below (Nat.le_of_lt HW2.out.lt)).mono hpw)
 have Hb4 := hid (hlow.trans (hb4.mono hlow.size))
 have HX4 := hid (hx2.below hb4)
 have HI4 : Hid (b2 = true -> ∃ n' vu vdo vme vwa at_ er g cap out, WIn pw (.slice A n c) n' 0 ((w3.alloc (.cells #[.int .i64 0, .string ⟨#[]⟩, .string ⟨#[]⟩, .int .u8 0, .string ⟨#[]⟩, .string ⟨#[]⟩, .int .i64 0, .string ⟨#[]⟩] 32)).setCells w3.heap.size 0 s2.l) vu vdo vme vwa at_ er /\ UnOk vu ((w3.alloc (.cells #[.int .i64 0, .string ⟨#[]⟩, .string ⟨#[]⟩, .int .u8 0, .string ⟨#[]⟩, .string ⟨#[]⟩, .int .i64 0, .string ⟨#[]⟩] 32)).setCells w3.heap.size 0 s2.l)) := hid (fun h => by
  obtain ⟨n', _, _, h3⟩ := hb2 h;obtain ⟨vu, vdo, vme, vwa, at_, er, g, cap, out, g1, g2, g3, rows, g4, g5, g6⟩ := h3 rfl;exact ⟨n', vu, vdo, vme, vwa, at_, er, g, cap, out, g1.below hb4, (UnOk.of g1 g2 g3 g4 g5 g6 HL.out.2.2 HL.out.1 HL.out.2.1).below hb4⟩)
 obtain ⟨W4, hW4⟩ := xE ((w3.alloc (.cells #[.int .i64 0, .string ⟨#[]⟩, .string ⟨#[]⟩, .int .u8 0, .string ⟨#[]⟩, .string ⟨#[]⟩, .int .i64 0, .string ⟨#[]⟩] 32)).setCells w3.heap.size 0 s2.l)
 rw [hW4] at HB9 Hb4 HX4 HI4 ⊢
 obtain ⟨gs, hgs⟩ := xE w3.heap.size
 rw [hgs] at HB9 ⊢
 clear hW4 hal hb4 hB9 hgs hlow HU HW2 HD2 Hb2 hs2 ht2 hx2 hb2
 cases b2
 ·obtain ⟨t, ht1, ht2⟩ := HX4.out;have k6 := (Blk.cell ht2 6).trans rfl;have k7 := (Blk.cell ht2 7).trans rfl;go_upto_region 7 with fail
  go_region
  go_wp2_with fail
  all_goals (
   (try simp only [Exit.inBlock, Exit.then]);go_ret3
   exact ⟨_, _, _, rfl, .inl rfl, Hb4.out.drew⟩)
 obtain ⟨n', vu, vdo, vme, vwa, at2, er2, g, cap, out, hW, hU⟩ := HI4.out rfl
 have k1 := hW.cells.2.1
 have HU := hid hU
 clear hW hU
 have j0 : W4.cell? ⟨gs, 0, none⟩ = some (.int .i64 s2.k) := (HB9.out.cell 0).trans rfl
 have j5 : W4.cell? ⟨gs, 5, none⟩ = some (.string s2.rf) := (HB9.out.cell 5).trans rfl
 obtain ⟨qk, hqk⟩ := xE (s2.k != 0)
 obtain ⟨qr, hqr⟩ := xE s2.rf.toList.isEmpty
 go_wp2_with fail
 all_goals (
  go_ret3
  first
  | exact ⟨_, _, _, rfl, .inl rfl, Hb4.out⟩
  | exact ⟨_, _, _, rfl, .inr HU.out, Hb4.out⟩)
theorem compile25_any (s : ByteArray) (w : World) (hs : s.size <= 1048576) : Calls Tryz.prog 5 #[.string s] w (PInf w) := by
 have HP := hid (parse20_any s w hs)
 go_enter Tryz.func5, Tryz.ntmps5
 go_upto_region 2 with (go_at_call 13; refine HP.out.mono ?_; rintro e w1 ⟨A, c, ds, p, er, rfl, hr, hok, hz, hb1⟩)
 obtain ⟨n, hn⟩ := xE ds.length
 rw [hn] at hz ⊢
 have HI := hid (infer25_any ds n hn hz A c w1 hok hr)
 have Hb1 := hid hb1
 clear HP hr hok hb1 hn
 obtain ⟨qe, hqe⟩ := xE (er != 0)
 cases qe
 ·go_wp2_with (go_at_call 14; refine HI.out.mono ?_; rintro e w2 ⟨vu, p2, er2, rfl, hu2, hb2⟩)
  (try simp only [Exit.inBlock, Exit.then]);go_ret3
  exact ⟨_, _, _, rfl, hu2, Hb1.out.trans (hb2.mono Hb1.out.size)⟩
 have he0 : er ≠ 0 := bne_iff_ne.1 hqe
 go_wp2_with fail
 (try simp only [Exit.inBlock, Exit.then])
 go_ret3
 exact ⟨_, _, _, rfl, .inl rfl, Hb1.out⟩
section
open Go.ChangeShapes Go.WideShapes Go.ChangeAt Go.RowKit
theorem laidOut : laidOutB Tryz.prog = true := by kernel_rfl
theorem own : ownKnob Tryz.prog.godebug = none := by kernel_rfl
theorem trodAll_stays {H : Type} {enc : TypeId × Value -> H} {P : Program} (hl : laidOutB P = true) {W W' : World} (hb : Below W.heap.size W W') :
  ∀ (ts : List TypeId) (vs : List Value) (ds : List (DataW H)) (ps : List MemPlace), (∀ t ∈ ts, P.readableRec t = true /\ t < P.types.size) -> (∀ x ∈ ps, x.block < W.heap.size) ->
   DataW.TrodAll enc P W 0 (fun _ => true) true ts vs ds ps -> DataW.TrodAll enc P W' 0 (fun b => decide (b < W.heap.size)) true ts vs ds ps
 | [], [], [], ps, _, _, h => h
 | t :: ts, v :: vs, d :: ds, ps, hr, hlt, h => by
  obtain ⟨p, q, h1, h2, rfl⟩ := h;have ht := hr t (by simp);exact ⟨p, q, Below.trod hl ht.1 ht.2 h1 hb (fun x hx => hlt x (by simp [hx])), trodAll_stays hl hb ts vs ds q (fun t' h' => hr t' (by simp [h'])) (fun x hx => hlt x (by simp [hx])) h2, rfl⟩
 | [], [], _ :: _, _, _, _, h => h.elim
 | [], _ :: _, _, _, _, _, h => h.elim
 | _ :: _, [], _, _, _, _, h => h.elim
 | _ :: _, _ :: _, [], _, _, _, h => h.elim
theorem law_post {H : Type} {enc : TypeId × Value -> H} {P : Program} (hl : laidOutB P = true) {f : Func} {s : ChangeSpec} {tb : TypeId} (hres : f.resultTypes = #[tb]) (htb : P.underlying tb = some .bool)
  (hread : ∀ t ∈ f.params.toList, P.readableRec t = true /\ t < P.types.size) (hv : s.vars = []) {W W' : World} {args : Array Value} {ds gs : List (DataW H)} {before : List MemPlace}
  (hfn : s.fn H (ds ++ gs) = { results := [.lit (.bool true)], args := ds }) (hW : DataW.Whole enc P f.params.toList s.vars false W args.toList ds gs before) (hb : Below W.heap.size W W') :
  s.post enc P f false true false false W args (.bool true) W' := by
 have hW' := hW
 have hlt : ∀ x ∈ before, x.block < W.heap.size := fun x hx => hW.lt x hx
 obtain ⟨p, q, hA, hV, rfl, hfz, hnd⟩ := hW
 rw [hv] at hV
 have hq : q = [] := by
  cases gs with
  | nil => exact hV
  | cons => exact hV.elim
 subst hq
 refine ⟨ds, gs, _, [], p, [], hW', ?_, ?_, ?_, ?_, fun h => by cases h⟩
 ·rw [hfn, hres];exact trodAll_mk1 (shut_bool htb _)
 ·rw [hfn];exact trodAll_stays hl hb _ _ _ _ hread (fun x hx => hlt x (by simp [hx])) hA
 ·rw [hfn, hv];rfl
 exact hb.frame _
end
end Go.Proofs.YtkcnmjdomipbjaaGreat
