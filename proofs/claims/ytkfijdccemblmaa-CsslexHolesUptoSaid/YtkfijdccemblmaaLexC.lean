/- Plain: what the pieces of a style cover. -/
import Derived.Test.YtkfijdccemblmaaLexP
set_option linter.unusedVariables false
namespace Go.Proofs.Ytkfijdccemblmaa
open Go.RowKit

/-- from a place on there are blanks and these pieces -/
def Cov (s : List UInt8) : Nat → List Pc → Prop
  | a, [] => ∀ j (h : j < s.length), a ≤ j → isBlank s[j] = true
  | a, p :: L => a ≤ p.a ∧ (∀ j (h : j < s.length), a ≤ j → j < p.a → isBlank s[j] = true) ∧ p.x ≠ [] ∧ p.a + p.x.length ≤ s.length ∧ (s.drop p.a).take p.x.length = p.x ∧ 1 ≤ p.k ∧ p.k ≤ 5 ∧ Cov s (p.a + p.x.length) L
theorem Cov.blank {s : List UInt8} {a : Nat} {L : List Pc} (h : Cov s (a + 1) L) (ha : a < s.length) (hb : isBlank s[a] = true) : Cov s a L := by
  cases L with
  | nil =>
    intro j hj haj
    rcases Nat.eq_or_lt_of_le haj with rfl | h1
    · exact hb
    · exact h j hj (by omega)
  | cons p L =>
    obtain ⟨h1, h2, h3⟩ := h
    refine ⟨by omega, fun j hj haj hjp => ?_, h3⟩
    rcases Nat.eq_or_lt_of_le haj with rfl | h1
    · exact hb
    · exact h2 j hj (by omega) hjp
theorem oneP_kind (c : UInt8) (r : List UInt8) : 1 ≤ (oneP (c :: r)).1 ∧ (oneP (c :: r)).1 ≤ 5 := by
  rw [oneP_cons]
  unfold namP
  repeat' split
  all_goals exact ⟨by simp, by simp⟩
theorem pcsT_cov (s : List UInt8) : ∀ (m k : Nat) (acc : List Pc), s.length - k ≤ m → k ≤ s.length →
    (∃ L, pcsT (s.drop k) k acc = (acc ++ L, s.length, 0) ∧ Cov s k L) ∨ ∃ (n : Nat) (e : Int), pcsT (s.drop k) k acc = ([], n, e) ∧ n < s.length ∧ (e = 33 ∨ e = 3) := by
  intro m
  induction m with
  | zero =>
    intro k acc hm hk
    obtain rfl : k = s.length := by omega
    left
    refine ⟨[], ?_, fun j hj h => by omega⟩
    rw [List.drop_length, pcsT_nil, List.append_nil]
  | succ m ih =>
    intro k acc hm hk
    rcases Nat.eq_or_lt_of_le hk with rfl | hlt
    · left
      refine ⟨[], ?_, fun j hj h => by omega⟩
      rw [List.drop_length, pcsT_nil, List.append_nil]
    · have hd : s.drop k = s[k] :: s.drop (k + 1) := List.drop_eq_getElem_cons hlt
      cases hb : isBlank s[k] with
      | true =>
        rw [hd, pcsT_blank _ _ _ _ hb]
        rcases ih (k + 1) acc (by omega) (by omega) with ⟨L, h1, h2⟩ | h
        · exact .inl ⟨L, h1, h2.blank hlt hb⟩
        · exact .inr h
      | false =>
        cases ho : (oneP (s[k] :: s.drop (k + 1))).2 with
        | none => exact .inr ⟨k, 33, by rw [hd, pcsT_none _ _ _ _ hb ho], hlt, .inl rfl⟩
        | some q =>
          have hle := oneP_le _ _ q ho
          rw [List.length_drop] at hle
          by_cases hf : acc.length < 4096
          · rw [hd, pcsT_some _ _ _ q _ hb ho hf, ← hd, List.drop_drop]
            have hkd := oneP_kind s[k] (s.drop (k + 1))
            have htl : ((s.drop k).take q).length = q := by rw [List.length_take, List.length_drop]; omega
            rcases ih (k + q) (acc ++ [⟨(oneP (s[k] :: s.drop (k + 1))).1, (s.drop k).take q, k⟩]) (by omega) (by omega) with ⟨L, h1, h2⟩ | h
            · left
              rw [← hd] at h1
              refine ⟨⟨(oneP (s.drop k)).1, (s.drop k).take q, k⟩ :: L, by rw [h1, List.append_assoc]; rfl, Nat.le_refl _, fun j hj h3 h4 => absurd h4 (Nat.not_lt.2 h3), fun e => ?_, ?_, ?_, ?_, ?_, ?_⟩
              · have := congrArg List.length e
                rw [htl] at this; simp at this; omega
              · simp only [htl]; omega
              · simp only [htl]
              · rw [← hd] at hkd; exact hkd.1
              · rw [← hd] at hkd; exact hkd.2
              · simp only [htl]; exact h2
            · rw [← hd] at h
              exact .inr h
          · exact .inr ⟨k, 3, by rw [hd, pcsT_full _ _ _ q _ hb ho hf], hlt, .inr rfl⟩
theorem pieces_cov (s : List UInt8) (hs : s.length ≤ 65536) :
    (∃ L, pieces s = (L, s.length, 0) ∧ Cov s 0 L) ∨ ∃ (n : Nat) (e : Int), pieces s = ([], n, e) ∧ n < s.length ∧ (e = 33 ∨ e = 3) := by
  have h := pcsT_cov s s.length 0 [] (by omega) (by omega)
  unfold pieces
  rw [if_pos hs]
  simpa using h
end Go.Proofs.Ytkfijdccemblmaa
