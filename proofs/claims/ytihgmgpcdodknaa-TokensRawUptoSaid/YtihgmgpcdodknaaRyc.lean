/- The pages' number, One. -/
import Derived.Test.YtihgmgpcdodknaaRyb
import Derived.Deep.QuietTactic
import Derived.BigQuiet
set_option linter.unusedVariables false
namespace Go.Proofs.Ytihgmgpcdodknaa
open Go.RowKit

set_option maxRecDepth 100000 in
set_option maxHeartbeats 800000 in
theorem number_any (s : ByteArray) (hex : Bool) (w : World) (h2 : s.size ≤ 7) (hd : s.data.toList.all isH = true) :
    Calls Try.prog 65 #[.string s, .int .i64 (baseN hex : Int)] w fun e w' => e = .returned (.int .i64 (valN (baseN hex) s.data.toList)) ∧ w = w' := by
  have Hlen := hid (len_data s)
  have Hd := hid hd
  obtain ⟨b, hb⟩ : ∃ b, baseN hex = b := ⟨_, rfl⟩
  have hb16 : b = 10 ∨ b = 16 := by rw [← hb]; cases hex <;> simp [baseN]
  rw [hb]
  obtain ⟨z, hz⟩ : ∃ z : Int, (b : Int) = z := ⟨_, rfl⟩
  have hz16 : z = 10 ∨ z = 16 := by omega
  have Hz := hid hz
  rw [hz]
  clear hd hb hz
  go_enter Try.func65, Try.ntmps65
  go_wp2
  go_loopw [5, 6] (fun q i wr => ∃ k : Nat, ∃ v : Int, k ≤ s.size ∧ i = .int .i64 k ∧ q = .int .i64 v ∧ Hid (v = valN b (s.data.toList.take k)) ∧ 0 ≤ v ∧ v < 536870912 ∧ wr = w) (fun _ i _ => s.size - (intOf i).toNat)
  case atStart => exact ⟨0, 0, Nat.zero_le _, rfl, rfl, hid rfl, by omega, by omega, rfl⟩
  case round =>
    obtain ⟨k, v, hk, rfl, rfl, hv, hv0, hv1, rfl⟩ := hrel
    by_cases hlt : k < s.size
    · have hkl : k < s.data.toList.length := by rw [Hlen.out]; exact hlt
      obtain ⟨c, hc⟩ : ∃ c, s.data.toList[k] = c := ⟨_, rfl⟩
      have hH : isH c = true := List.all_eq_true.1 Hd.out c (by rw [← hc]; exact List.getElem_mem _)
      have hex1 : (s.extract k (k + 1)).data.toList = [c] := by
        rw [data_extract, take_one _ k hkl, hc, List.drop_append_of_le_length (by rw [List.length_take]; omega), List.drop_of_length_le (by rw [List.length_take]; omega)]; rfl
      have HU := hid (fun w => refUnhex1_any (s.extract k (k + 1)) c w hex1 hH)
      have hdl := dval_lt c hH
      obtain ⟨d, hdd⟩ : ∃ d : Int, (dval c : Int) = d := ⟨_, rfl⟩
      have Hdd := hid hdd
      have hd0 : 0 ≤ d ∧ d < 16 := by omega
      have Hst : Hid (((valN b (s.data.toList.take (k + 1)) : Nat) : Int) = v * z + d) := hid (by
        rw [take_one _ k hkl, valN_snoc, hc, hv.out, ← hdd, ← Hz.out]; push_cast; rfl)
      have HvB : Hid (k + 1 ≤ 7 → v * z + d < 536870912) := hid (fun _ => by
        have hall : ∀ c ∈ s.data.toList.take (k + 1), dval c < 16 := fun c hc => dval_lt c (List.all_eq_true.1 Hd.out c (List.mem_of_mem_take hc))
        have hl : (s.data.toList.take (k + 1)).length = k + 1 := by rw [List.length_take, Hlen.out]; omega
        have := valN_lt b (by omega) (k + 1) _ hl hall
        have h7 : 16 ^ (k + 1) ≤ 16 ^ 7 := Nat.pow_le_pow_right (by omega) (by omega)
        have := Hst.out
        omega)
      clear hc hH hex1 hdl hdd
      rcases hz16 with rfl | rfl
      all_goals
        go_wp2_with fail
        refine (HU.out _).mono ?_
        rintro e w1 ⟨rfl, rfl⟩
        rw [Hdd.out]
        go_wp2
        go_roundw
        case rel => exact ⟨k + 1, _, by omega, by go_num, rfl, hid Hst.out.symm, by omega, HvB.out (by omega), by first | trivial | rfl⟩
        case measure => simp [intOf]; omega
    · obtain rfl : k = s.size := by omega
      have hv' := hv.out
      rw [take_all] at hv'
      subst hv'
      go_wp2
      go_ret
      exact ⟨rfl, rfl⟩
end Go.Proofs.Ytihgmgpcdodknaa
