/- Plain: unfinished references. No program in sight. -/
import Derived.Test.YtihgmgpcdodknaaRefsY
set_option linter.unusedVariables false
namespace Go.Proofs.Ytihgmgpcdodknaa
open Go.RowKit Go.Lib

/-- a beginning of one? -/
def unfR (s : List UInt8) : Bool :=
  match s with
  | 38 :: t => names.any (fun p => t.isPrefixOf p.1) || ((partL t).2.2 && numericL (partL t).1 (partL t).2.1)
  | _ => false
theorem last_split {a q b : List UInt8} {c : UInt8} (e : a ++ q = b ++ [c]) (hq : q ≠ []) : ∃ z, q = z ++ [c] ∧ a ++ z = b := by
  have hq' := List.dropLast_concat_getLast hq
  have e' : (a ++ q.dropLast) ++ [q.getLast hq] = b ++ [c] := by rw [List.append_assoc, hq', e]
  obtain ⟨h1, h2⟩ := List.append_inj' e' rfl
  injection h2 with h2
  exact ⟨q.dropLast, by rw [← h2]; exact hq'.symm, h1⟩
theorem numericL_prefix (hex : Bool) (a z ds : List UInt8) (e : a ++ z = ds) (h1 : ds.length ≤ 7) (h2 : ds.all (digP hex) = true) : numericL a hex = true := by
  subst e
  rw [List.all_append, Bool.and_eq_true] at h2
  rw [List.length_append] at h1
  unfold numericL
  rw [h2.1, Bool.true_and, decide_eq_true_iff]; omega
theorem unf_of (a q x : List UInt8) (ha : a ≠ []) (hq : q ≠ []) (hm : Mtch (a ++ q) x) : unfR a = true := by
  cases a with
  | nil => exact absurd rfl ha
  | cons c a =>
    rcases hm with ⟨p, hp, hm, _⟩ | ⟨hex, pre, ds, hx, d1, d2, d3, hm, _⟩
    · rw [List.cons_append] at hm
      injection hm with h1 h2
      subst h1
      obtain ⟨z, _, hz⟩ := last_split h2 hq
      show (_ || _) = true
      rw [List.any_eq_true.2 ⟨p, hp, List.isPrefixOf_iff_prefix.2 ⟨z, hz⟩⟩]; rfl
    · rw [List.cons_append] at hm
      injection hm with h1 h2
      subst h1
      have h3 : a ++ q = (35 :: (pre ++ ds)) ++ [59] := by rw [h2]; simp
      obtain ⟨z, _, hz⟩ := last_split h3 hq
      show (_ || _) = true
      cases a with
      | nil => rfl
      | cons c a =>
        rw [List.cons_append] at hz
        injection hz with h1 h4
        subst h1
        cases a with
        | nil =>
          have : ((partL [35]).2.2 && numericL (partL [35]).1 (partL [35]).2.1) = true := by decide
          rw [this, Bool.or_true]
        | cons c a =>
          rcases hx with ⟨rfl, hp⟩ | ⟨rfl, rfl⟩
          · have hX : isX c = true ∧ a ++ z = ds := by
              rcases hp with rfl | rfl
              · rw [List.cons_append] at h4
                have h5 : c :: (a ++ z) = 120 :: ds := h4
                injection h5 with h5 h6; subst h5; exact ⟨by decide, h6⟩
              · have h5 : c :: (a ++ z) = 88 :: ds := h4
                injection h5 with h5 h6; subst h5; exact ⟨by decide, h6⟩
            have hpl : partL (35 :: c :: a) = (a, true, true) := by simp only [partL]; rw [hX.1]; rfl
            rw [hpl]
            show (_ || (true && numericL a true)) = true
            rw [numericL_prefix true a z ds hX.2 d2 d3]; simp
          · rw [List.nil_append] at h4
            have hD : isD c = true := by
              rw [← h4, List.cons_append, List.all_cons, Bool.and_eq_true] at d3; exact d3.1
            have hX : isX c = false := by
              cases e : isX c with
              | false => rfl
              | true => rw [dig_noX c e] at hD; cases hD
            have hpl : partL (35 :: c :: a) = (c :: a, false, true) := by simp only [partL]; rw [hX]; rfl
            rw [hpl]
            show (_ || (true && numericL (c :: a) false)) = true
            rw [numericL_prefix false (c :: a) z ds h4 d2 d3]; simp
theorem unf_to (s : List UInt8) (h : unfR s = true) : s ≠ [] ∧ ∃ q x, q ≠ [] ∧ Mtch (s ++ q) x := by
  unfold unfR at h
  split at h
  · rename_i t
    refine ⟨by simp, ?_⟩
    rw [Bool.or_eq_true] at h
    rcases h with h | h
    · rw [List.any_eq_true] at h
      obtain ⟨p, hp, h⟩ := h
      obtain ⟨z, hz⟩ := List.isPrefixOf_iff_prefix.1 h
      exact ⟨z ++ [59], [p.2], by simp, .inl ⟨p, hp, by rw [← hz]; simp, rfl⟩⟩
    · rw [Bool.and_eq_true] at h
      obtain ⟨d, hex, is⟩ : ∃ d : List UInt8, True := ⟨[], trivial⟩
      obtain ⟨pre, hx, ht⟩ := partL_is t (partL t).1 (partL t).2.1 (by rw [← h.1])
      have hn := h.2
      unfold numericL at hn
      rw [Bool.and_eq_true, decide_eq_true_iff] at hn
      obtain ⟨ds, hds⟩ : ∃ ds, (partL t).1 = ds := ⟨_, rfl⟩
      obtain ⟨hx', hhx⟩ : ∃ hx', (partL t).2.1 = hx' := ⟨_, rfl⟩
      rw [hds, hhx] at hn
      rw [hds] at ht
      rw [hhx] at hx
      cases ds with
      | nil =>
        refine ⟨[48, 59], _, by simp, .inr ⟨hx', pre, [48], hx, by simp, by simp, ?_, ?_, rfl⟩⟩
        · cases hx' <;> decide
        · rw [ht]; simp
      | cons e es =>
        refine ⟨[59], _, by simp, .inr ⟨hx', pre, e :: es, hx, by simp, hn.2, hn.1, ?_, rfl⟩⟩
        rw [ht]; simp
  · cases h
theorem unf_prefix (s q : List UInt8) (hs : s ≠ []) (h : unfR (s ++ q) = true) : unfR s = true := by
  obtain ⟨_, q2, x, hq, hm⟩ := unf_to _ h
  rw [List.append_assoc] at hm
  exact unf_of s (q ++ q2) x hs (by simp [hq]) hm
theorem unf_one (s : List UInt8) (h : unfR s = true) : oneR s = ([], 0) := by
  obtain ⟨_, q, x, hq, hm⟩ := unf_to s h
  refine one_other s (fun m y r e hy => ?_)
  obtain ⟨u, hu, hu59, _⟩ := mtch_shape _ _ hm
  obtain ⟨v, hv, hv59, _⟩ := mtch_shape _ _ hy
  rw [e, hv] at hu
  have e2 : v ++ 59 :: (r ++ q) = u ++ 59 :: [] := by
    rw [List.append_assoc, List.cons_append] at hu
    injection hu with _ hu
    simpa using hu
  have := (split_first 59 e2 hv59 hu59).2
  exact hq (List.append_eq_nil_iff.1 this).2
theorem unf_len (s : List UInt8) (h : unfR s = true) : s.length ≤ 10 := by
  obtain ⟨_, q, x, hq, hm⟩ := unf_to s h
  obtain ⟨u, hu, _, _, h9, _⟩ := mtch_shape _ _ hm
  have := congrArg List.length hu
  have hq1 : 1 ≤ q.length := List.length_pos_iff.2 hq
  simp at this; omega
theorem unf_more (s : List UInt8) (c : UInt8) (h : unfR s = true) : (oneR (s ++ [c])).2 = 0 ∨ ((oneR (s ++ [c])).2 = s.length + 1 ∧ c = 59) := by
  rcases one_mtch (s ++ [c]) with e | ⟨m, x, r, e, hm⟩
  · left; rw [e]
  · right
    by_cases hr : r = []
    · subst hr
      rw [List.append_nil] at e
      have h1 := mtch_one m x [] hm
      rw [List.append_nil] at h1
      rw [e, h1]
      obtain ⟨u, hu, _⟩ := mtch_shape m x hm
      refine ⟨by show m.length = _; rw [← e]; simp, ?_⟩
      have h2 : s ++ [c] = (38 :: u) ++ [59] := by rw [e, hu]; simp
      have h3 := (List.append_inj' h2 rfl).2
      injection h3
    · exfalso
      obtain ⟨z, _, hz⟩ := last_split e.symm hr
      have h1 := mtch_one m x z hm
      rw [hz, unf_one s h] at h1
      obtain ⟨u, hu, _⟩ := mtch_shape m x hm
      injection h1 with _ h1
      rw [hu] at h1; simp at h1
theorem unf_head (s : List UInt8) (h : unfR s = true) : ∃ t, s = 38 :: t := by
  unfold unfR at h
  split at h
  · exact ⟨_, rfl⟩
  · cases h
/-- what stands behind a text that does not end unfinished does not turn its first reference -/
theorem one_append (a t : List UInt8) (ha : a ≠ []) (h : unfR a = false) : oneR (a ++ t) = oneR a := by
  rcases one_mtch (a ++ t) with e | ⟨m, x, r, e, hm⟩
  · rcases one_mtch a with e2 | ⟨m, x, r, e2, hm⟩
    · rw [e, e2]
    · exfalso
      rw [e2, List.append_assoc, mtch_one m x _ hm] at e
      obtain ⟨u, hu, _⟩ := mtch_shape m x hm
      injection e with _ e
      rw [hu] at e; simp at e
  · rcases Nat.lt_or_ge a.length m.length with hl | hl
    · exfalso
      have hm2 : m = a ++ m.drop a.length := by
        have h1 := congrArg (List.take m.length) e
        rw [List.take_left] at h1
        have h2 := congrArg (List.take a.length) e
        rw [List.take_left, List.take_append_of_le_length (by omega)] at h2
        calc m = m.take a.length ++ m.drop a.length := (List.take_append_drop _ _).symm
          _ = a ++ m.drop a.length := by rw [← h2]
      have hq : m.drop a.length ≠ [] := by
        intro e3
        have := congrArg List.length e3
        rw [List.length_drop] at this; simp at this; omega
      rw [hm2] at hm
      rw [unf_of a _ x ha hq hm] at h
      cases h
    · have hm2 : a = m ++ a.drop m.length := by
        have h1 := congrArg (List.take m.length) e
        rw [List.take_left, List.take_append_of_le_length hl] at h1
        calc a = a.take m.length ++ a.drop m.length := (List.take_append_drop _ _).symm
          _ = m ++ a.drop m.length := by rw [h1]
      rw [e, mtch_one m x r hm]
      conv => rhs; rw [hm2]
      rw [mtch_one m x _ hm]
theorem dec_append : ∀ (n : Nat) (a t : List UInt8), a.length ≤ n → (∀ i, i < a.length → unfR (a.drop i) = false) → decL (a ++ t) = decL a ++ decL t
  | 0, a, t, hn, _ => by
    obtain rfl := List.eq_nil_of_length_eq_zero (by omega : a.length = 0)
    rfl
  | n + 1, [], t, _, _ => rfl
  | n + 1, c :: a, t, hn, h => by
    have h0 := h 0 (by simp)
    rw [List.drop_zero] at h0
    have ho := one_append (c :: a) t (by simp) h0
    simp only [List.length_cons] at hn
    rw [List.cons_append] at ho ⊢
    rw [decL_cons, decL_cons, ho]
    by_cases hp : 0 < (oneR (c :: a)).2
    · rw [if_pos hp, if_pos hp, List.append_assoc]
      congr 1
      have hle : (oneR (c :: a)).2 ≤ (c :: a).length := by
        rcases one_mtch (c :: a) with e | ⟨m, x, r, e, hm⟩
        · rw [e]; simp
        · rw [e, mtch_one m x r hm]; simp
      rw [← List.cons_append, List.drop_append_of_le_length hle]
      refine dec_append n _ t (by rw [List.length_drop, List.length_cons]; omega) (fun i hi => ?_)
      rw [List.drop_drop]
      rw [List.length_drop] at hi
      exact h _ (by omega)
    · rw [if_neg hp, if_neg hp, List.cons_append]
      congr 1
      refine dec_append n a t (by omega) (fun i hi => ?_)
      have := h (i + 1) (by simp; omega)
      simpa using this
end Go.Proofs.Ytihgmgpcdodknaa
