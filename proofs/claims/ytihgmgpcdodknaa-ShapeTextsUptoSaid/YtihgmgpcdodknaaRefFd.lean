/- muslinref01.Find alone (XRef2 beside XRy clashes). -/
import Derived.Test.YtihgmgpcdodknaaKit
import Derived.Test.YtihgmgpcdodknaaTokP
import Derived.Test.YtihgmgpcdodknaaRows
import Derived.Test.YtihgmgpcdodknaaOct2
import Derived.Lib.IndexLaws
set_option linter.unusedVariables false
namespace Go.Proofs.Ytihgmgpcdodknaa
open Go.RowKit

theorem occ_of_eq (s p : ByteArray) (k : Nat) (hk : k + p.size ≤ s.size) : ((s.extract k (k + p.size)).toList = p.toList) ↔ Lib.occAt s.data.toList p.data.toList k = true := by
  rw [ByteArray.toList_eq, ByteArray.toList_eq, data_extract, Lib.occAt, List.isPrefixOf_iff_prefix, List.prefix_iff_eq_take, len_data, List.drop_take, Nat.add_sub_cancel_left]
  constructor <;> intro h <;> exact h.symm

set_option maxHeartbeats 800000 in
theorem refFind_any (s p : ByteArray) (hs : s.size ≤ 1099511627776) (hp : p.size ≤ 1099511627776) (w : World) :
    Calls Try.prog 22 #[.string s, .string p] w fun e w' => e = .returned (.int .i64 (Lib.index s.data.toList p.data.toList)) ∧ w = w' := by
  have hlen := hid (len_data s)
  have hlenp := hid (len_data p)
  go_enter Try.func22, Try.ntmps22
  go_wp2
  go_loop [5] (fun i => ∃ k : Nat, k ≤ s.size + 1 ∧ i = .int .i64 k ∧ Hid (Lib.NoOcc s.data.toList p.data.toList k)) (fun i => s.size + 1 - (intOf i).toNat)
  case atStart => exact ⟨0, Nat.zero_le _, rfl, hid (Lib.NoOcc.zero _ _)⟩
  case round =>
    obtain ⟨k, hk, rfl, hS⟩ := hrel
    by_cases hlt : k + p.size ≤ s.size
    · have ho := hid (occ_of_eq s p k hlt)
      by_cases hoc : (s.extract k (k + p.size)).toList = p.toList
      · have hocb : ((s.extract k (k + p.size)).toList == p.toList) = true := by rw [hoc]; simp
        have Hoc := hid (ho.out.1 hoc)
        clear hoc
        go_wp2
        go_ret
        refine ⟨ret_int ?_, rfl⟩
        rw [Lib.index_hit hS.out (by rw [hlen.out]; omega) Hoc.out]
      · have hocb : ((s.extract k (k + p.size)).toList == p.toList) = false := by simpa using hoc
        have Hoc : Hid (Lib.occAt s.data.toList p.data.toList k = false) := hid (by
          cases h : Lib.occAt s.data.toList p.data.toList k with
          | false => rfl
          | true => exact absurd (ho.out.2 h) hoc)
        clear hoc
        go_wp2
        go_round
        case rel => exact ⟨k + 1, by omega, by go_num, hid (hS.out.succ Hoc.out)⟩
        case measure => simp [intOf]; omega
    · go_wp2
      go_ret
      refine ⟨ret_int ?_, rfl⟩
      by_cases hp0 : p.data.toList = []
      · exfalso
        have h0 : p.size = 0 := by rw [← hlenp.out, hp0]; rfl
        have := hS.out 0 (by omega)
        rw [hp0] at this
        simp [Lib.occAt] at this
      · rw [Lib.index_past hp0 hS.out (by rw [hlen.out, hlenp.out]; omega)]
end Go.Proofs.Ytihgmgpcdodknaa
