/- Plain: a text, a remark, an address is one piece. -/
import Derived.Test.YtkfijdccemblmaaLexP
set_option linter.unusedVariables false
namespace Go.Proofs.Ytkfijdccemblmaa
open Go.RowKit

/-- none of a newline, a backslash, a quote, a star, a bracket -/
def badB (c : UInt8) : Bool := c == 10 || c == 13 || c == 92 || c == 34 || c == 42 || c == 41
theorem quotN_plain : ∀ (l : List UInt8), (∀ c ∈ l, badB c = false) → quotN 34 (l ++ [34]) = some (l.length + 1)
  | [], _ => by decide
  | c :: l, h => by
    have hc := h c (by simp)
    have ih := quotN_plain l (fun d hd => h d (by simp [hd]))
    simp only [badB, Bool.or_eq_false_iff, beq_eq_false_iff_ne] at hc
    obtain ⟨⟨⟨⟨⟨h1, h2⟩, h3⟩, h4⟩, h5⟩, h6⟩ := hc
    rw [List.cons_append, quotN_more 34 c _ h3 (by rintro (h | h); exact h1 h; exact h2 h) h4, ih]
    simp
theorem idxO_star : ∀ (l : List UInt8), (∀ c ∈ l, badB c = false) → idxO (l ++ [42, 47]) [42, 47] = some l.length
  | [], _ => by decide
  | c :: l, h => by
    have hc := h c (by simp)
    have ih := idxO_star l (fun d hd => h d (by simp [hd]))
    simp only [badB, Bool.or_eq_false_iff, beq_eq_false_iff_ne] at hc
    rw [List.cons_append, idxO_cons, if_neg (by simp [List.isPrefixOf]; intro e; exact absurd e.symm hc.1.2), ih]
    simp
theorem idxO_close : ∀ (l : List UInt8), (∀ c ∈ l, badB c = false) → idxO (l ++ [41]) [41] = some l.length
  | [], _ => by decide
  | c :: l, h => by
    have hc := h c (by simp)
    have ih := idxO_close l (fun d hd => h d (by simp [hd]))
    simp only [badB, Bool.or_eq_false_iff, beq_eq_false_iff_ne] at hc
    rw [List.cons_append, idxO_cons, if_neg (by simp [List.isPrefixOf]; intro e; exact absurd e.symm hc.2), ih]
    simp
theorem pcsT_last (c : UInt8) (r : List UInt8) (a : Nat) (h : isBlank c = false) (hn : (oneP (c :: r)).2 = some (c :: r).length) : pcsT (c :: r) a [] = ([⟨(oneP (c :: r)).1, c :: r, a⟩], a + (c :: r).length, 0) := by
  rw [pcsT_some c r a _ [] h hn (by simp), List.drop_length, pcsT_nil, List.take_length]
  rfl
theorem one_text (l : List UInt8) (h : ∀ c ∈ l, badB c = false) : pcsT ([34] ++ l ++ [34]) 0 [] = ([⟨2, [34] ++ l ++ [34], 0⟩], l.length + 2, 0) := by
  have e : oneP (34 :: (l ++ [34])) = (2, some (l.length + 2)) := by
    rw [oneP_cons, if_neg (by decide), if_pos (.inl rfl), quotN_plain l h]
    simp
  have := pcsT_last 34 (l ++ [34]) 0 (by decide) (by rw [e]; simp)
  rw [e] at this
  simpa using this
theorem one_remark (l : List UInt8) (h : ∀ c ∈ l, badB c = false) : pcsT ([47, 42] ++ l ++ [42, 47]) 0 [] = ([⟨3, [47, 42] ++ l ++ [42, 47], 0⟩], l.length + 4, 0) := by
  have e : oneP (47 :: (42 :: (l ++ [42, 47]))) = (3, some (l.length + 4)) := by
    rw [oneP_cons, if_neg (by decide), if_neg (by decide), if_pos (by simp [List.isPrefixOf])]
    show (3, (idxO (l ++ [42, 47]) [42, 47]).map (· + 4)) = _
    rw [idxO_star l h]
    simp
  have := pcsT_last 47 (42 :: (l ++ [42, 47])) 0 (by decide) (by rw [e]; simp)
  rw [e] at this
  simpa using this
theorem one_url (l : List UInt8) (h : ∀ c ∈ l, badB c = false) : pcsT ([32, 85, 82, 76, 40] ++ l ++ [41]) 0 [] = ([⟨4, [85, 82, 76, 40] ++ l ++ [41], 1⟩], l.length + 6, 0) := by
  have hw : (85 :: 82 :: 76 :: 40 :: (l ++ [41])).takeWhile isWordy = [85, 82, 76] := by
    simp only [List.takeWhile_cons]
    rw [if_pos (by decide), if_pos (by decide), if_pos (by decide), if_neg (by decide)]
  have e : oneP (85 :: (82 :: 76 :: 40 :: (l ++ [41]))) = (4, some (l.length + 5)) := by
    rw [oneP_cons, if_pos (by decide)]
    unfold namP
    rw [hw, if_pos ⟨by decide, rfl⟩]
    show ((4 : Int), (idxO (40 :: (l ++ [41])) [41]).map (· + 4)) = _
    rw [idxO_cons, if_neg (by simp [List.isPrefixOf]), idxO_close l h]
    simp
  have h2 := pcsT_last 85 (82 :: 76 :: 40 :: (l ++ [41])) 1 (by decide) (by rw [e]; simp)
  rw [e] at h2
  have e3 : [32, 85, 82, 76, 40] ++ l ++ [41] = 32 :: (85 :: 82 :: 76 :: 40 :: (l ++ [41])) := by simp
  have e4 : [85, 82, 76, 40] ++ l ++ [41] = 85 :: 82 :: 76 :: 40 :: (l ++ [41]) := by simp
  rw [e3, e4, pcsT_blank _ _ _ _ (by decide), h2]
  simp only [List.length_cons, List.length_append, List.length_nil]
  congr 2
  omega
end Go.Proofs.Ytkfijdccemblmaa
