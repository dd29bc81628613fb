/- SizesParts: what it returns. -/
import Derived.Test.YthhaannlbkgefaaNds
set_option linter.unusedVariables false
namespace Go.Proofs.Ythhaannlbkgefaa
open Go.RowKit

/-- the bits of some NaN -/
def nanOf (t : Nat) : Nat := (t % 2) * 2 ^ 63 + 0x7ff0000000000000 + 1 + (t / 2) % (2 ^ 52 - 1)
theorem nan_read (t : Nat) : ∃ s f, Ieee.double.read (nanOf t) = .nan s f := by
  have esw : Ieee.double.signWeight = 2 ^ 63 := by decide
  have eb : Ieee.double.binade = 2 ^ 52 := rfl
  have ei : Ieee.double.infRung = 0x7ff0000000000000 := by decide
  obtain ⟨r, hr⟩ : ∃ r, (t / 2) % (2 ^ 52 - 1) = r := ⟨_, rfl⟩
  have hr2 : r < 2 ^ 52 - 1 := by rw [← hr]; exact Nat.mod_lt _ (by decide)
  have hm : nanOf t % 2 ^ 63 = 0x7ff0000000000000 + 1 + r := by
    unfold nanOf
    rw [hr]
    omega
  unfold Ieee.Format.read
  simp only [esw, eb, ei, hm]
  rw [if_neg (by omega), if_neg (by omega), if_neg (by omega)]
  exact ⟨_, _, rfl⟩
theorem nan_order (t c : Nat) : FloatKind.f64.format.order (nanOf t) c = none := by
  obtain ⟨s, f, h⟩ := nan_read t
  show Ieee.double.order _ _ = _
  unfold Ieee.Format.order
  rw [h]
  rfl
theorem run_nan {P : Program} (t : TypeId) (w : World) : (binOp .quo t (.float .f64 0) (.float .f64 0)).run P w = .ok (.float .f64 (nanOf (w.tape w.drawn (.nanBits .f64 0 0)))) w.drew := by
  have h : FloatKind.f64.format.div 0 0 = none := by decide
  simp [binOp, Op.floatArith, h, Question.forced, Question.cut, nanOf]

theorem part_hi (b : Nat) (h1 : FloatKind.f64.format.order b 14069245235905429504 = some .gt) (h2 : FloatKind.f64.format.order b 4845873199050653696 = some .gt) (w : World) : Calls Try.prog 15 #[.float .f64 b] w fun e w' => e = .returned (.int .i64 0) ∧ w = w' := by
  go_enter Try.func15, Try.ntmps15
  go_wp2
  go_ret
  exact ⟨rfl, rfl⟩
theorem part_lo (b : Nat) (h1 : FloatKind.f64.format.order b 14069245235905429504 = some .lt) (w : World) : Calls Try.prog 15 #[.float .f64 b] w fun e w' => e = .returned (.int .i64 0) ∧ w = w' := by
  go_enter Try.func15, Try.ntmps15
  go_wp2
  go_ret
  exact ⟨rfl, rfl⟩
theorem part_nan (b : Nat) (h1 : FloatKind.f64.format.order b 14069245235905429504 = none) (w : World) : Calls Try.prog 15 #[.float .f64 b] w fun e w' => e = .returned (.int .i64 0) ∧ w = w' := by
  go_enter Try.func15, Try.ntmps15
  go_wp2
  go_ret
  exact ⟨rfl, rfl⟩
theorem octets_of (f g : Nat) (r : Int) (hp : ∀ w, Calls Try.prog 15 #[.float .f64 f] w fun e w' => e = .returned (.int .i64 r) ∧ w = w') (w : World) : Calls Try.prog 9 #[.complex .f64 f g] w fun e w' => e = .returned (.int .i64 r) ∧ w = w' := by
  have HP := hid hp
  clear hp
  go_enter Try.func9, Try.ntmps9
  go_wp2_with fail
  refine (HP.out _).mono ?_
  rintro e w1 ⟨rfl, rfl⟩
  go_wp2
  go_ret
  exact ⟨rfl, rfl⟩
theorem actions_of (f g : Nat) (r : Int) (hp : ∀ w, Calls Try.prog 15 #[.float .f64 g] w fun e w' => e = .returned (.int .i64 r) ∧ w = w') (w : World) : Calls Try.prog 10 #[.complex .f64 f g] w fun e w' => e = .returned (.int .i64 r) ∧ w = w' := by
  have HP := hid hp
  clear hp
  go_enter Try.func10, Try.ntmps10
  go_wp2_with fail
  refine (HP.out _).mono ?_
  rintro e w1 ⟨rfl, rfl⟩
  go_wp2
  go_ret
  exact ⟨rfl, rfl⟩

def aNds : List Nd := [.mk 1 ⟨#[97, 98]⟩ [] [], .mk 2 ⟨#[]⟩ [] []]
theorem aNds_sz : ndsSz aNds = (2, 1) := by decide
set_option maxHeartbeats 800000 in
theorem alive34_any (w : World) : Calls Try.prog 6 #[] w fun e w' => e = .returned (.bool true) ∧ Below w.heap.size w w' := by
  have hn := fun (W : World) (g : Nat) (h1 : NdsAt W W.heap.size (some ⟨g, 0, none⟩) 0 aNds) => nodes_any aNds (by decide) (by decide) (by decide) (some ⟨g, 0, none⟩) 2 W W.heap.size h1 (Nat.le_refl _)
  unfold RNds at hn
  rw [aNds_sz] at hn
  have Hn := hid hn
  have Ho := hid (fun w => octets_any 2 1 (by decide) w)
  have Ha := hid (fun w => actions_any 2 1 (by decide) w)
  have e2 : fW 2 = 4611686018427387904 := by decide
  have e1 : fW 1 = 4607182418800017408 := by decide
  rw [e2, e1] at Ho Ha
  have hcv : cV (2, 1) = .complex .f64 4611686018427387904 4607182418800017408 := by unfold cV; show Value.complex .f64 (fW 2) (fW 1) = _; rw [e2, e1]
  rw [hcv] at Hn
  clear hn e1 e2 hcv
  go_enter Try.func6, Try.ntmps6
  go_wp2_with fail
  refine (Hn.out _ _ ?_).mono ?_
  · simp only [aNds, NdsAt, NdAt]
    refine ⟨⟨_, rfl, ⟨by simp [Addr.add], by simp [ByteArray.size]⟩, ?_, ?_, ⟨#[]⟩, none, 0, 0, none, 0, none, 0, 0, 0, 0, ?_, ?_, ?_, ?_, ?_, ?_, ?_, trivial, trivial⟩, ⟨_, rfl, ⟨by simp [Addr.add], by simp [ByteArray.size]⟩, ?_, ?_, ⟨#[]⟩, none, 0, 0, none, 0, none, 0, 0, 0, 0, ?_, ?_, ?_, ?_, ?_, ?_, ?_, trivial, trivial⟩, trivial⟩
    all_goals simp [Addr.add]
  rintro e w1 ⟨rfl, hb1⟩
  go_wp2_with fail
  refine (Ho.out _).mono ?_
  rintro e w2 ⟨rfl, rfl⟩
  go_wp2_with fail
  refine (Ha.out _).mono ?_
  rintro e w2 ⟨rfl, rfl⟩
  go_wp2
  go_ret
  exact ⟨rfl, ((Below.refl _ _).alloc (Nat.le_refl _) _).trans (hb1.mono (by simp))⟩

set_option maxRecDepth 100000 in
set_option maxHeartbeats 1600000 in
theorem sizesParts_any (n : Int) (w : World) (h0 : -9223372036854775808 ≤ n) (h1 : n ≤ 9223372036854775807) :
    Calls Try.prog 4 #[.int .i64 n] w fun e w' => e = .returned (.bool true) ∧ Below w.heap.size w w' := by
  obtain ⟨v, hv⟩ : ∃ v, n.tmod 9007199254740992 = v := ⟨_, rfl⟩
  have hvb : v.natAbs < 2 ^ 53 := by
    rw [← hv, Int.natAbs_tmod]
    exact Nat.mod_lt _ (by decide)
  obtain ⟨f, hf⟩ : ∃ f, fW v = f := ⟨_, rfl⟩
  have hP := fun w => part_any v hvb w
  rw [hf] at hP
  have HP := hid hP
  have hcv : floatOfInt FloatKind.f64 v = f := hf
  have HF1 := hid (fun w => octets_of 4886405595696988160 14109777632551763968 0 (fun w => part_hi 4886405595696988160 (by decide) (by decide) w) w)
  have HF2 := hid (fun w => actions_of 4886405595696988160 14109777632551763968 0 (fun w => part_lo 14109777632551763968 (by decide) w) w)
  have hsub : ∀ w, (binOp .sub 24 (.complex .f64 4886405595696988160 14109777632551763968) (.complex .f64 4886405595696988160 14109777632551763968)).run Try.prog w = .ok (.complex .f64 0 0) w := fun w => by
    have e1 : FloatKind.f64.format.sub 4886405595696988160 4886405595696988160 = some 0 := by decide
    have e2 : FloatKind.f64.format.sub 14109777632551763968 14109777632551763968 = some 0 := by decide
    simp [binOp, Op.complexOp, Op.Complex.arith, Op.floatArith, e1, e2]
  have hnan := fun w => run_nan (P := Try.prog) 25 w
  have Hno := hid (fun t => fun w => octets_of (nanOf t) 0 0 (fun w => part_nan (nanOf t) (nan_order t _) w) w)
  have Hlast := hid (fun w => octets_of f 4607182418800017408 v HP.out w)
  have hvb1 : -9007199254740992 < v ∧ v < 9007199254740992 := by omega
  obtain ⟨hvb1, hvb2⟩ := hvb1
  clear hP hf hvb HP
  go_enter Try.func4, Try.ntmps4
  go_wp2_with fail
  refine (alive34_any _).mono ?_
  rintro e w1 ⟨rfl, hb1⟩
  go_wp2_with fail
  refine (HF1.out _).mono ?_
  rintro e w2 ⟨rfl, rfl⟩
  go_wp2_with fail
  refine (HF2.out _).mono ?_
  rintro e w2 ⟨rfl, rfl⟩
  go_wp2_with fail
  refine (Hno.out _ _).mono ?_
  rintro e w2 ⟨rfl, rfl⟩
  go_wp2_with fail
  refine (Hlast.out _).mono ?_
  rintro e w2 ⟨rfl, rfl⟩
  go_wp2
  go_ret
  exact ⟨by first | rfl | simp, hb1.drew⟩
end Go.Proofs.Ythhaannlbkgefaa
