/- Plain: the first reference, by way of the first ';'. Unfinished ones. No program in sight (but package refs' small words). -/
import Derived.Test.YtihgmgpcdodknaaRefs
set_option linter.unusedVariables false
namespace Go.Proofs.Ytihgmgpcdodknaa
open Go.RowKit Go.Lib

theorem split_first {b u r v : List UInt8} (c : UInt8) (e : b ++ c :: r = u ++ c :: v) (hb : c ∉ b) (hu : c ∉ u) : b = u ∧ r = v := by
  induction b generalizing u with
  | nil =>
    cases u with
    | nil => simp at e; exact ⟨rfl, e⟩
    | cons d u => rw [List.nil_append, List.cons_append] at e; injection e with e1 e2; subst e1; exact absurd (List.mem_cons_self ..) hu
  | cons d b ih =>
    cases u with
    | nil => rw [List.nil_append, List.cons_append] at e; injection e with e1 e2; subst e1; exact absurd (List.mem_cons_self ..) hb
    | cons d' u =>
      rw [List.cons_append, List.cons_append] at e
      injection e with e1 e2
      subst e1
      obtain ⟨h1, h2⟩ := ih e2 (fun h => hb (List.mem_cons_of_mem _ h)) (fun h => hu (List.mem_cons_of_mem _ h))
      exact ⟨by rw [h1], h2⟩
theorem one_empty : oneR [] = ([], 0) := rfl
/-- no ';' among the first sixteen octets: no reference -/
theorem one_nosemi (s : List UInt8) (h : (59 : UInt8) ∉ s.take 16) : oneR s = ([], 0) := by
  refine one_other _ (fun m x r e hm => ?_)
  obtain ⟨u, hu, _, _, h9, _⟩ := mtch_shape m x hm
  apply h
  have e1 : s.take 16 = m ++ r.take (16 - m.length) := by
    rw [e, List.take_append]
    congr 1
    exact List.take_of_length_le (by rw [hu]; simp; omega)
  rw [e1, hu]; simp
theorem nameB_some (b : List UInt8) (h : (nameB b).2 = true) : ∃ p ∈ names, p.1 = b ∧ [p.2] = (nameB b).1 := by
  unfold nameB at h ⊢
  repeat' split
  all_goals first | (rename_i e; subst e; simp [names]; done) | skip
  all_goals simp_all
theorem nameB_none (b : List UInt8) (h : (nameB b).2 = false) : ∀ p ∈ names, p.1 ≠ b := by
  intro p hp e
  subst e
  simp only [names, List.mem_cons, List.not_mem_nil, or_false] at hp
  rcases hp with rfl | rfl | rfl | rfl | rfl <;> simp [nameB] at h
theorem one_named (b r : List UInt8) (h : (nameB b).2 = true) : oneR (38 :: (b ++ 59 :: r)) = ((nameB b).1, b.length + 2) := by
  obtain ⟨p, hp, rfl, h2⟩ := nameB_some b h
  have := mtch_one (38 :: (p.1 ++ [59])) [p.2] r (.inl ⟨p, hp, rfl, rfl⟩)
  rw [← h2]
  simpa using this
theorem partL_is (b t : List UInt8) (hex : Bool) (h : partL b = (t, hex, true)) : ∃ pre, (hex = true ∧ (pre = [120] ∨ pre = [88]) ∨ hex = false ∧ pre = []) ∧ b = 35 :: (pre ++ t) := by
  unfold partL at h
  split at h
  · rename_i c u
    split at h
    · rename_i hx
      injection h with h1 h2; injection h2 with h2 h3
      subst h1; subst h2
      unfold isX at hx
      rw [Bool.or_eq_true, beq_iff_eq, beq_iff_eq] at hx
      refine ⟨[c], .inl ⟨rfl, ?_⟩, rfl⟩
      rcases hx with rfl | rfl
      · exact .inl rfl
      · exact .inr rfl
    · injection h with h1 h2; injection h2 with h2 h3
      subst h1; subst h2
      exact ⟨[], .inr ⟨rfl, rfl⟩, rfl⟩
  · injection h with h1 h2; injection h2 with h2 h3
    subst h1; subst h2
    exact ⟨[], .inr ⟨rfl, rfl⟩, rfl⟩
  · injection h with h1 h2; injection h2 with h2 h3
    cases h3
theorem one_number (b r t : List UInt8) (hex : Bool) (hp : partL b = (t, hex, true)) (h1 : t ≠ []) (h2 : numericL t hex = true) : oneR (38 :: (b ++ 59 :: r)) = (chrOf (valN (baseN hex) t), b.length + 2) := by
  obtain ⟨pre, hpre, rfl⟩ := partL_is b t hex hp
  unfold numericL at h2
  rw [Bool.and_eq_true, decide_eq_true_iff] at h2
  have hl : 1 ≤ t.length := List.length_pos_iff.2 h1
  have := mtch_one (38 :: 35 :: (pre ++ t ++ [59])) _ r (.inr ⟨hex, pre, t, hpre, hl, h2.2, h2.1, rfl, rfl⟩)
  have e : (38 :: 35 :: (pre ++ t ++ [59])).length = (35 :: (pre ++ t)).length + 2 := by simp; omega
  rw [e] at this
  simpa using this
theorem one_none (b r : List UInt8) (hb : (59 : UInt8) ∉ b) (h1 : (nameB b).2 = false) (h2 : (partL b).2.2 = true → (partL b).1 ≠ [] → numericL (partL b).1 (partL b).2.1 = false) : oneR (38 :: (b ++ 59 :: r)) = ([], 0) := by
  refine one_other _ (fun m x r' e hm => ?_)
  obtain ⟨u, hu, hu59, _⟩ := mtch_shape m x hm
  rw [hu] at e
  have e2 : b ++ 59 :: r = u ++ 59 :: r' := by
    rw [List.cons_append] at e
    injection e with _ e
    simpa using e
  obtain ⟨rfl, _⟩ := split_first 59 e2 hb hu59
  rcases hm with ⟨p, hp, hm, _⟩ | ⟨hex, pre, ds, hx, d1, d2, d3, hm, _⟩
  · rw [hu] at hm
    injection hm with _ hm
    have := List.append_cancel_right hm
    exact nameB_none b h1 p hp this.symm
  · rw [hu] at hm
    injection hm with _ hm
    have hm2 : b = 35 :: (pre ++ ds) := by
      have : b ++ [59] = (35 :: (pre ++ ds)) ++ [59] := by rw [hm]; simp
      exact List.append_cancel_right this
    have hne : ds ≠ [] := by intro e; rw [e] at d1; simp at d1
    have hpl : partL b = (ds, hex, true) := by
      rw [hm2]
      rcases hx with ⟨rfl, rfl | rfl⟩ | ⟨rfl, rfl⟩
      · rfl
      · rfl
      · cases ds with
        | nil => exact absurd rfl hne
        | cons d ds =>
          have hd : isD d = true := by rw [List.all_cons, Bool.and_eq_true] at d3; exact d3.1
          have hX : isX d = false := by
            cases e : isX d with
            | false => rfl
            | true => rw [dig_noX d e] at hd; cases hd
          show partL (35 :: d :: ds) = _
          simp only [partL]
          rw [hX]; rfl
    rw [hpl] at h2
    have := h2 rfl hne
    unfold numericL at this
    simp only at this
    rw [d3, Bool.true_and, decide_eq_false_iff_not] at this
    exact this d2
/-- a place of ';' -/
theorem semi_at (s : List UInt8) (j : Nat) (h : indexByte (s.take 16) 59 = j) : j < s.length ∧ j < 16 ∧ s = s.take j ++ 59 :: s.drop (j + 1) ∧ (59 : UInt8) ∉ s.take j := by
  obtain ⟨h1, h2⟩ := indexByte_some h
  have hlt : j < (s.take 16).length := by
    rcases Nat.lt_or_ge j (s.take 16).length with h' | h'
    · exact h'
    · rw [List.getElem?_eq_none h'] at h1; cases h1
  rw [List.length_take] at hlt
  have hj : j < s.length := by omega
  rw [List.getElem?_take, if_pos (by omega), List.getElem?_eq_getElem hj] at h1
  injection h1 with h1
  refine ⟨hj, by omega, ?_, ?_⟩
  · have := List.take_append_drop j s
    rw [List.drop_eq_getElem_cons hj, h1] at this
    exact this.symm
  · intro hm
    rw [List.mem_take_iff_getElem] at hm
    obtain ⟨k, hk, e⟩ := hm
    refine h2 k (by omega) ?_
    rw [List.getElem?_take, if_pos (by omega), List.getElem?_eq_getElem (by omega), e]
theorem semi_none (s : List UInt8) (h : indexByte (s.take 16) 59 < 0) : (59 : UInt8) ∉ s.take 16 := by
  have hg := indexByte_ge (s.take 16) 59
  have := indexByte_none (show indexByte (s.take 16) 59 = -1 by omega)
  intro hm
  obtain ⟨k, hk, e⟩ := List.mem_iff_getElem.1 hm
  exact this k (by rw [List.getElem?_eq_getElem hk, e])
end Go.Proofs.Ytihgmgpcdodknaa
