/- Package sizes: part, Octets, Actions, Sum. -/
import Derived.Test.YthhaannlbkgefaaRows
import Derived.Test.YthhaannlbkgefaaFltP
import Derived.Test.YthhaannlbkgefaaReads
import Derived.WalkLawsBesides
set_option linter.unusedVariables false
namespace Go.Proofs.Ythhaannlbkgefaa
open Go.RowKit

theorem big_read : Ieee.double.read 4845873199050653696 = .number false (2 ^ 52) 1 := by decide
theorem low_read : Ieee.double.read 14069245235905429504 = .number true (2 ^ 52) 1 := by decide
theorem order_big (v : Int) (h1 : v.natAbs < 2 ^ 53) : FloatKind.f64.format.order (fW v) 4845873199050653696 = some .lt := by
  obtain ⟨d, hd⟩ := fW_read v h1
  show Ieee.double.order _ _ = _
  unfold Ieee.Format.order
  rw [hd, big_read]
  unfold Ieee.Datum.order
  simp only [Option.some.injEq]
  have hbase : min (-(d : Int)) 1 = -(d : Int) := by omega
  rw [hbase]
  have e1 : (-(d : Int) - -(d : Int)).toNat = 0 := by omega
  have e2 : ((1 : Int) - -(d : Int)).toNat = d + 1 := by omega
  rw [e1, e2, signed_is]
  have e3 : Ieee.signed false (2 ^ 52) (d + 1) = 2 ^ 53 * ((2 ^ d : Nat) : Int) := by
    unfold Ieee.signed
    simp only [Bool.false_eq_true, if_false]
    rw [Nat.shiftLeft_eq]
    have hX : (2 ^ 52 * 2 ^ (d + 1) : Nat) = 9007199254740992 * 2 ^ d := by
      rw [Nat.pow_add 2 d 1, Nat.pow_one]
      generalize 2 ^ d = X
      omega
    rw [hX, Int.natCast_mul]
    generalize ((2 ^ d : Nat) : Int) = X
    omega
  rw [e3, Nat.add_zero]
  have hp : (0 : Int) < (2 ^ d : Nat) := by
    have := Nat.two_pow_pos d
    omega
  have hlt : v * ((2 ^ d : Nat) : Int) < 2 ^ 53 * ((2 ^ d : Nat) : Int) := (Int.mul_lt_mul_right hp).2 (by omega)
  simp only [compare, compareOfLessAndEq, if_pos hlt]
theorem order_low (v : Int) (h1 : v.natAbs < 2 ^ 53) : FloatKind.f64.format.order (fW v) 14069245235905429504 = some .gt := by
  obtain ⟨d, hd⟩ := fW_read v h1
  show Ieee.double.order _ _ = _
  unfold Ieee.Format.order
  rw [hd, low_read]
  unfold Ieee.Datum.order
  simp only [Option.some.injEq]
  have hbase : min (-(d : Int)) 1 = -(d : Int) := by omega
  rw [hbase]
  have e1 : (-(d : Int) - -(d : Int)).toNat = 0 := by omega
  have e2 : ((1 : Int) - -(d : Int)).toNat = d + 1 := by omega
  rw [e1, e2, signed_is]
  have e3 : Ieee.signed true (2 ^ 52) (d + 1) = -(2 ^ 53) * ((2 ^ d : Nat) : Int) := by
    unfold Ieee.signed
    simp only [if_true]
    rw [Nat.shiftLeft_eq]
    have hX : (2 ^ 52 * 2 ^ (d + 1) : Nat) = 9007199254740992 * 2 ^ d := by
      rw [Nat.pow_add 2 d 1, Nat.pow_one]
      generalize 2 ^ d = X
      omega
    rw [hX, Int.natCast_mul]
    generalize ((2 ^ d : Nat) : Int) = X
    omega
  rw [e3, Nat.add_zero]
  have hp : (0 : Int) < (2 ^ d : Nat) := by
    have := Nat.two_pow_pos d
    omega
  have hlt : -(2 ^ 53) * ((2 ^ d : Nat) : Int) < v * ((2 ^ d : Nat) : Int) := (Int.mul_lt_mul_right hp).2 (by omega)
  have h2 : ¬ v * ((2 ^ d : Nat) : Int) < -(2 ^ 53) * ((2 ^ d : Nat) : Int) := by omega
  have h3 : ¬ v * ((2 ^ d : Nat) : Int) = -(2 ^ 53) * ((2 ^ d : Nat) : Int) := by omega
  simp only [compare, compareOfLessAndEq, if_neg h2, if_neg h3]

theorem run_cadd {P : Program} {w : World} (t : TypeId) (a b c d : Int) (h1 : a.natAbs < 2 ^ 53) (h2 : b.natAbs < 2 ^ 53) (h3 : c.natAbs < 2 ^ 53) (h4 : d.natAbs < 2 ^ 53) (h5 : (a + c).natAbs < 2 ^ 53) (h6 : (b + d).natAbs < 2 ^ 53) :
    (binOp .add t (.complex .f64 (fW a) (fW b)) (.complex .f64 (fW c) (fW d))).run P w = .ok (.complex .f64 (fW (a + c)) (fW (b + d))) w := by
  have e1 := fW_add a c h1 h3 h5
  have e2 := fW_add b d h2 h4 h6
  simp [binOp, Op.complexOp, Op.Complex.arith, Op.floatArith, FloatKind.format, e1, e2]
theorem run_cadd' {P : Program} (t : TypeId) (a b c d e f : Nat) (h1 : FloatKind.f64.format.add a c = some e) (h2 : FloatKind.f64.format.add b d = some f) (w : World) : (binOp .add t (.complex .f64 a b) (.complex .f64 c d)).run P w = .ok (.complex .f64 e f) w := by
  simp [binOp, Op.complexOp, Op.Complex.arith, Op.floatArith, h1, h2]
theorem run_ceql {P : Program} {w : World} (t : TypeId) (a b c d : Int) (h1 : a.natAbs < 2 ^ 53) (h2 : b.natAbs < 2 ^ 53) (h3 : c.natAbs < 2 ^ 53) (h4 : d.natAbs < 2 ^ 53) :
    (binOp .eql t (.complex .f64 (fW a) (fW b)) (.complex .f64 (fW c) (fW d))).run P w = .ok (.bool (decide (a = c) && decide (b = d))) w := by
  have e1 := fW_order a c h1 h3
  have e2 := fW_order b d h2 h4
  have k : ∀ x y : Int, (compare x y == Ordering.eq) = decide (x = y) := fun x y => by
    by_cases h : x = y
    · subst h; simp
    · have : compare x y ≠ Ordering.eq := fun e => h (Int.compare_eq_eq.1 e)
      simp [h, this]
  simp [binOp, Op.complexOp, Op.Complex.cmp, Op.floatCmp, FloatKind.format, asBool, e1, e2, k]
theorem run_toInt {P : Program} {w : World} (src dst : TypeId) (v : Int) (h1 : v.natAbs < 2 ^ 53) (hs : (P.underlying src).isSome = true) (hd : P.underlying dst = some (.int .i64)) :
    (convert src dst (.float .f64 (fW v))).run P w = .ok (.int .i64 v) w := by
  refine run_convert_float_int _ src dst .f64 .i64 (fW v) v hs hd ?_
  unfold floatToIntVal
  have := fW_toInt v h1
  rw [show FloatKind.f64.decode (fW v) = Ieee.double.read (fW v) from rfl, this]
  simp only
  rw [if_pos]
  simp [IntKind.min, IntKind.max, IntKind.signed, IntKind.bits]
  omega
theorem run_ge {P : Program} {w : World} (t : TypeId) (v : Int) (h1 : v.natAbs < 2 ^ 53) : (binOp .geq t (.float .f64 (fW v)) (.float .f64 14069245235905429504)).run P w = .ok (.bool true) w := by
  have e := order_low v h1
  simp [binOp, Op.floatCmp, e]
theorem run_le {P : Program} {w : World} (t : TypeId) (v : Int) (h1 : v.natAbs < 2 ^ 53) : (binOp .leq t (.float .f64 (fW v)) (.float .f64 4845873199050653696)).run P w = .ok (.bool true) w := by
  have e := order_big v h1
  simp [binOp, Op.floatCmp, e]

set_option maxHeartbeats 400000 in
theorem part_any (v : Int) (h1 : v.natAbs < 2 ^ 53) (w : World) : Calls Try.prog 15 #[.float .f64 (fW v)] w fun e w' => e = .returned (.int .i64 v) ∧ w = w' := by
  have hg := order_low v h1
  have hl := order_big v h1
  have hi := fun (w : World) => run_toInt (P := Try.prog) (w := w) 25 3 v h1 (by kernel_rfl) Try.underlying3
  obtain ⟨f, hf⟩ : ∃ f, fW v = f := ⟨_, rfl⟩
  simp only [hf] at hg hl hi ⊢
  clear hf h1
  go_enter Try.func15, Try.ntmps15
  go_wp2
  go_ret
  exact ⟨rfl, rfl⟩
theorem octets_any (a b : Int) (ha : a.natAbs < 2 ^ 53) (w : World) : Calls Try.prog 9 #[.complex .f64 (fW a) (fW b)] w fun e w' => e = .returned (.int .i64 a) ∧ w = w' := by
  have hp := hid (fun w => part_any a ha w)
  obtain ⟨f, hf⟩ : ∃ f, fW a = f := ⟨_, rfl⟩
  obtain ⟨g, hg⟩ : ∃ g, fW b = g := ⟨_, rfl⟩
  rw [hf, hg]
  rw [hf] at hp
  clear hf hg ha
  go_enter Try.func9, Try.ntmps9
  go_wp2_with fail
  refine (hp.out _).mono ?_
  rintro e w1 ⟨rfl, rfl⟩
  go_wp2
  go_ret
  exact ⟨rfl, rfl⟩
theorem actions_any (a b : Int) (hb : b.natAbs < 2 ^ 53) (w : World) : Calls Try.prog 10 #[.complex .f64 (fW a) (fW b)] w fun e w' => e = .returned (.int .i64 b) ∧ w = w' := by
  have hp := hid (fun w => part_any b hb w)
  obtain ⟨f, hf⟩ : ∃ f, fW a = f := ⟨_, rfl⟩
  obtain ⟨g, hg⟩ : ∃ g, fW b = g := ⟨_, rfl⟩
  rw [hf, hg]
  rw [hg] at hp
  clear hf hg hb
  go_enter Try.func10, Try.ntmps10
  go_wp2_with fail
  refine (hp.out _).mono ?_
  rintro e w1 ⟨rfl, rfl⟩
  go_wp2
  go_ret
  exact ⟨rfl, rfl⟩

/-- a complex number of whole parts -/
def cV (p : Nat × Nat) : Value := .complex .f64 (fW (p.1 : Int)) (fW (p.2 : Int))
/-- sums of both parts -/
def sumP (l : List (Nat × Nat)) : Nat × Nat := l.foldl (fun a b => (a.1 + b.1, a.2 + b.2)) (0, 0)
theorem sumP_take (l : List (Nat × Nat)) (k : Nat) (h : k < l.length) : sumP (l.take (k + 1)) = ((sumP (l.take k)).1 + l[k].1, (sumP (l.take k)).2 + l[k].2) := by
  unfold sumP
  rw [List.take_succ_eq_append_getElem h, List.foldl_append]
  rfl
theorem sumP_from (l : List (Nat × Nat)) : ∀ a : Nat × Nat, l.foldl (fun a b => (a.1 + b.1, a.2 + b.2)) a = (a.1 + (sumP l).1, a.2 + (sumP l).2) := by
  induction l with
  | nil => intro a; simp [sumP]
  | cons b l ih =>
    intro a
    simp only [List.foldl_cons, sumP]
    rw [ih, ih]
    simp; omega
theorem sumP_cons (b : Nat × Nat) (l : List (Nat × Nat)) : sumP (b :: l) = (b.1 + (sumP l).1, b.2 + (sumP l).2) := by
  show (b :: l).foldl _ _ = _
  rw [List.foldl_cons, sumP_from]
  simp
theorem sumP_le (l : List (Nat × Nat)) (k : Nat) : (sumP (l.take k)).1 ≤ (sumP l).1 ∧ (sumP (l.take k)).2 ≤ (sumP l).2 := by
  induction l generalizing k with
  | nil => simp [sumP]
  | cons b l ih =>
    cases k with
    | zero => simp [sumP]
    | succ k =>
      rw [List.take_succ_cons, sumP_cons, sumP_cons]
      have := ih k
      simp only; omega

set_option maxHeartbeats 800000 in
theorem sum_any (A : Option Addr) (cap : Nat) (l : List (Nat × Nat)) (w : World) (B : Nat) (hR : Reads w B 1 A l.length (l.map cV)) (hn : l.length ≤ 1048576) (h1 : (sumP l).1 < 2 ^ 53) (h2 : (sumP l).2 < 2 ^ 53) :
    Calls Try.prog 7 #[.slice A l.length cap] w fun e w' => e = .returned (cV (sumP l)) ∧ w = w' := by
  have HR := hid hR
  have Hle := hid (sumP_le l)
  have Htk := hid (sumP_take l)
  clear hR
  obtain ⟨n, hnn⟩ : ∃ n, l.length = n := ⟨_, rfl⟩
  have Hn := hid hnn
  rw [hnn] at hn ⊢
  clear hnn
  have H0 := hid fW_zero
  go_enter Try.func7, Try.ntmps7
  go_wp2
  go_loop [3, 8] (fun c i => ∃ k : Nat, k ≤ n ∧ i = .int .i64 k ∧ c = cV (sumP (l.take k))) (fun _ i => n - (intOf i).toNat)
  case atStart => exact ⟨0, Nat.zero_le _, rfl, by rw [List.take_zero]; show _ = Value.complex .f64 (fW 0) (fW 0); rw [H0.out]⟩
  case round =>
    obtain ⟨k, hk, rfl, rfl⟩ := hrel
    by_cases hlt : k < n
    · have hkl : k < l.length := by rw [Hn.out]; exact hlt
      obtain ⟨ad, rfl, hbl, hc⟩ : ∃ ad, A = some ad ∧ ad.block < B ∧ w.cell? (ad.add k) = some (cV l[k]) := by
        obtain ⟨ad, e, hb, hc⟩ := HR.out.2 (by omega)
        exact ⟨ad, e, hb, hc k _ (by simp [hkl])⟩
      have hle := Hle.out k
      have hle2 := Hle.out (k + 1)
      have htk := Htk.out k hkl
      rw [htk] at hle2
      obtain ⟨p, hp⟩ : ∃ p, l[k] = p := ⟨_, rfl⟩
      obtain ⟨q, hq⟩ : ∃ q, sumP (l.take k) = q := ⟨_, rfl⟩
      rw [hp, hq] at htk hle2
      rw [hp] at hc
      rw [hq] at hle ⊢
      simp only at hle2
      have e1 := fW_add (q.1 : Int) (p.1 : Int) (by omega) (by omega) (by omega)
      have e2 := fW_add (q.2 : Int) (p.2 : Int) (by omega) (by omega) (by omega)
      have e3 : Hid (cV (sumP (l.take (k + 1))) = .complex .f64 (fW ((q.1 : Int) + (p.1 : Int))) (fW ((q.2 : Int) + (p.2 : Int)))) := hid (by rw [htk]; unfold cV; simp)
      unfold cV at hc ⊢
      obtain ⟨a1, ha1⟩ : ∃ a1, fW (q.1 : Int) = a1 := ⟨_, rfl⟩
      obtain ⟨a2, ha2⟩ : ∃ a2, fW (q.2 : Int) = a2 := ⟨_, rfl⟩
      obtain ⟨b1, hb1⟩ : ∃ b1, fW (p.1 : Int) = b1 := ⟨_, rfl⟩
      obtain ⟨b2, hb2⟩ : ∃ b2, fW (p.2 : Int) = b2 := ⟨_, rfl⟩
      obtain ⟨c1, hc1⟩ : ∃ c1, fW ((q.1 : Int) + (p.1 : Int)) = c1 := ⟨_, rfl⟩
      obtain ⟨c2, hc2⟩ : ∃ c2, fW ((q.2 : Int) + (p.2 : Int)) = c2 := ⟨_, rfl⟩
      rw [ha1, hb1, hc1] at e1
      rw [ha2, hb2, hc2] at e2
      rw [hc1, hc2] at e3
      rw [hb1, hb2] at hc
      rw [ha1, ha2]
      have f1 : FloatKind.f64.format.add a1 b1 = some c1 := e1
      have f2 : FloatKind.f64.format.add a2 b2 = some c2 := e2
      clear e1 e2 ha1 ha2 hb1 hb2 hc1 hc2 hp hq htk hle hle2 hkl
      have hadd := run_cadd' (P := Try.prog) 24 a1 a2 b1 b2 c1 c2 f1 f2
      clear f1 f2
      go_wp2
      go_round
      case rel => exact ⟨k + 1, by omega, by go_num, e3.out.symm⟩
      case measure => simp [intOf]; omega
    · obtain rfl : k = n := by omega
      have hall : Hid (l.take k = l) := hid (List.take_of_length_le (by rw [Hn.out]; exact Nat.le_refl _))
      rw [hall.out]
      unfold cV
      go_wp2
      go_ret
      exact ⟨rfl, rfl⟩
end Go.Proofs.Ythhaannlbkgefaa
