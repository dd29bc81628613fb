/- Contracts of classes of octets: octets.Letter, octets.Blank; csscan's wordy. -/
import Derived.Test.YtihgmgpcdodknaaDoorOct
import Derived.Test.YtihgmgpcdodknaaDoorTokP
set_option linter.unusedVariables false
namespace Go.Proofs.YtihgmgpcdodknaaDoor
open Go.RowKit

theorem bytes_all {p : UInt8 → Int → Prop} (h : ∀ k : Fin 256, p (UInt8.ofNat k.val) (k.val : Int)) (n : Int) (h0 : 0 ≤ n) (h1 : n ≤ 255) : p (bOf n) n := by
  have := h ⟨n.toNat, by omega⟩
  have e : ((n.toNat : Nat) : Int) = n := by omega
  simp only [e] at this
  exact this
theorem letter_bits (n : Int) (h0 : 0 ≤ n) (h1 : n ≤ 255) : isLetter (bOf n) = (decide (97 ≤ bits BinOp.or IntKind.u8 n 32) && decide (bits BinOp.or IntKind.u8 n 32 ≤ 122)) :=
  bytes_all (p := fun c n => isLetter c = (decide (97 ≤ bits BinOp.or IntKind.u8 n 32) && decide (bits BinOp.or IntKind.u8 n 32 ≤ 122))) (by decide +kernel) n h0 h1
theorem wordy_int (n : Int) (h0 : 0 ≤ n) (h1 : n ≤ 255) : isWordy (bOf n) = (isLetter (bOf n) || (decide (48 ≤ n) && decide (n ≤ 57)) || n == 45 || n == 95) :=
  bytes_all (p := fun c n => isWordy c = (isLetter c || (decide (48 ≤ n) && decide (n ≤ 57)) || n == 45 || n == 95)) (by decide +kernel) n h0 h1
theorem blank_int (n : Int) (h0 : 0 ≤ n) (h1 : n ≤ 255) : isBlank (bOf n) = (n == 32 || (decide (9 ≤ n) && decide (n ≤ 13) && !(n == 11))) :=
  bytes_all (p := fun c n => isBlank c = (n == 32 || (decide (9 ≤ n) && decide (n ≤ 13) && !(n == 11)))) (by decide +kernel) n h0 h1

set_option maxHeartbeats 400000 in
theorem letter_any (n : Int) (h0 : 0 ≤ n) (h1 : n ≤ 255) (w : World) :
    Calls Tryd.prog 79 #[.int .u8 n] w fun e w' => e = .returned (.bool (isLetter (bOf n))) ∧ w = w' := by
  have hl := hid (letter_bits n h0 h1)
  go_enter Tryd.func79, Tryd.ntmps79
  go_wp2
  all_goals go_ret
  all_goals (refine ⟨ret_bool ?_, rfl⟩; rw [hl.out]; first | (simp [*]; done) | (simp; omega))



set_option maxHeartbeats 400000 in
theorem blank_any (n : Int) (h0 : 0 ≤ n) (h1 : n ≤ 255) (w : World) :
    Calls Tryd.prog 101 #[.int .u8 n] w fun e w' => e = .returned (.bool (isBlank (bOf n))) ∧ w = w' := by
  have hl := hid (blank_int n h0 h1)
  go_enter Tryd.func101, Tryd.ntmps101
  go_wp2
  all_goals go_ret
  all_goals subst_vars
  all_goals (refine ⟨ret_bool ?_, rfl⟩; rw [hl.out]; first | (simp [*]; done) | (rw [Bool.eq_iff_iff]; simp [*]; done) | (rw [Bool.eq_iff_iff]; simp [*]; omega) | (rw [Bool.eq_iff_iff]; simp; omega))

end Go.Proofs.YtihgmgpcdodknaaDoor
