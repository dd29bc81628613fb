/- Plain: a part of a text that may stand in a style may stand there. -/
import Derived.Test.YtpddkamkdkgihaaCssP
set_option linter.unusedVariables false
namespace Go.Proofs.Ytpddkamkdkgihaa

theorem occ_index : ∀ (s p : List UInt8) (j : Nat), j ≤ s.length → Lib.occAt s p j = true → 0 ≤ Lib.index s p
  | [], p, j, hj, h => by
    have : j = 0 := by simpa using hj
    subst this
    cases p with
    | nil => decide
    | cons a t => simp [Lib.occAt] at h
  | b :: l, p, 0, _, h => by
    unfold Lib.index
    rw [if_pos (by simpa [Lib.occAt] using h)]
    exact Int.le_refl _
  | b :: l, p, j + 1, hj, h => by
    have ih := occ_index l p j (by simpa using hj) (by simpa [Lib.occAt] using h)
    unfold Lib.index
    split
    · exact Int.le_refl _
    · split
      · rename_i h2; have := beq_iff_eq.1 h2; omega
      · omega
theorem index_sub (s p : List UInt8) (a b : Nat) (h : Lib.index s p < 0) : Lib.index ((s.take b).drop a) p < 0 := by
  have e : Lib.index ((s.take b).drop a) p = -1 := by
    refine Lib.index_none fun j hj => ?_
    cases ho : Lib.occAt ((s.take b).drop a) p j with
    | false => rfl
    | true =>
      exfalso
      unfold Lib.occAt at ho
      rw [List.drop_drop, List.drop_take, List.isPrefixOf_iff_prefix] at ho
      have h1 : p <+: s.drop (a + j) := ho.trans (List.take_prefix _ _)
      by_cases hle : a + j ≤ s.length
      · have := occ_index s p (a + j) hle (by unfold Lib.occAt; rw [List.isPrefixOf_iff_prefix]; exact h1)
        omega
      · rw [List.drop_eq_nil_of_le (by omega)] at h1
        have hp : p = [] := List.eq_nil_of_prefix_nil h1
        have := occ_index s p 0 (Nat.zero_le _) (by rw [hp]; simp [Lib.occAt])
        omega
  rw [e]; decide
theorem styledL_sub (l : List UInt8) (a b : Nat) (h : styledL l = true) : styledL ((l.take b).drop a) = true := by
  unfold styledL at h ⊢
  simp only [Bool.and_eq_true, List.all_eq_true, decide_eq_true_eq] at h ⊢
  have e : low ((l.take b).drop a) = ((low l).take b).drop a := by simp [low]
  rw [e]
  refine ⟨fun c hc => h.1 c (List.mem_of_mem_take (List.mem_of_mem_drop hc)), ⟨?_, index_sub _ _ a b h.2.1.2⟩, index_sub _ _ a b h.2.2⟩
  have := h.2.1.1
  rw [List.length_drop, List.length_take]; omega
end Go.Proofs.Ytpddkamkdkgihaa
