/- Plain: character references, on lists of octets. No program in sight. -/
import Derived.Test.YtihgmgpcdodknaaCharP
set_option linter.unusedVariables false
namespace Go.Proofs.Ytihgmgpcdodknaa
open Go.RowKit Go.Lib

def isD (c : UInt8) : Bool := decide (48 ≤ c.toNat) && decide (c.toNat ≤ 57)
def isH (c : UInt8) : Bool := isD c || (decide (97 ≤ c.toNat) && decide (c.toNat ≤ 102)) || (decide (65 ≤ c.toNat) && decide (c.toNat ≤ 70))
def digP (hex : Bool) (c : UInt8) : Bool := if hex then isH c else isD c
def dval (c : UInt8) : Nat := if isD c then c.toNat - 48 else if c.toNat ≤ 70 then c.toNat - 55 else c.toNat - 87
def baseN (hex : Bool) : Nat := if hex then 16 else 10
def valN (base : Nat) (l : List UInt8) : Nat := l.foldl (fun n c => n * base + dval c) 0
theorem valN_snoc (base : Nat) (l : List UInt8) (c : UInt8) : valN base (l ++ [c]) = valN base l * base + dval c := by simp [valN]
/-- what a number stands for -/
def chrOf (n : Nat) : List UInt8 := if encOk (n : Int) = true ∧ n ≠ 0 then encodeRune (n : Int) else [239, 191, 189]
/-- digits and ';': what they stand for, and how many octets they are -/
def numT (hex : Bool) (t : List UInt8) : Option (List UInt8 × Nat) :=
  if 1 ≤ (t.takeWhile (digP hex)).length ∧ (t.takeWhile (digP hex)).length ≤ 7 ∧ t[(t.takeWhile (digP hex)).length]? = some 59 then
    some (chrOf (valN (baseN hex) (t.takeWhile (digP hex))), (t.takeWhile (digP hex)).length + 1) else none
def names : List (List UInt8 × UInt8) := [([97, 109, 112], 38), ([108, 116], 60), ([103, 116], 62), ([113, 117, 111, 116], 34), ([97, 112, 111, 115], 39)]
/-- the first of the names that stands ahead of ';' -/
def namedL (s : List UInt8) : Option (List UInt8 × Nat) := (names.find? fun p => (38 :: (p.1 ++ [59])).isPrefixOf s).map fun p => ([p.2], p.1.length + 2)
def isX (c : UInt8) : Bool := c == 120 || c == 88
def numL : List UInt8 → List UInt8 × Nat
  | 38 :: 35 :: t =>
    match t with
    | [] => ([], 0)
    | c :: u => if isX c then (match numT true u with | some (x, k) => (x, k + 3) | none => ([], 0)) else (match numT false t with | some (x, k) => (x, k + 2) | none => ([], 0))
  | _ => ([], 0)
def oneR (s : List UInt8) : List UInt8 × Nat := match namedL s with | some r => r | none => numL s

/-- one whole reference, and what it stands for -/
def Mtch (m x : List UInt8) : Prop := (∃ p ∈ names, m = 38 :: (p.1 ++ [59]) ∧ x = [p.2]) ∨
  ∃ hex pre ds, (hex = true ∧ (pre = [120] ∨ pre = [88]) ∨ hex = false ∧ pre = []) ∧ 1 ≤ ds.length ∧ ds.length ≤ 7 ∧ ds.all (digP hex) = true ∧ m = 38 :: 35 :: (pre ++ ds ++ [59]) ∧ x = chrOf (valN (baseN hex) ds)

theorem takeWhile_stop (p : UInt8 → Bool) (ds : List UInt8) (c : UInt8) (r : List UInt8) (h : ds.all p = true) (hc : p c = false) : (ds ++ c :: r).takeWhile p = ds := by
  induction ds with
  | nil => simp [hc]
  | cons d ds ih =>
    rw [List.all_cons, Bool.and_eq_true] at h
    rw [List.cons_append, List.takeWhile_cons, h.1, if_pos rfl, ih h.2]
theorem dig_no59 (hex : Bool) : digP hex 59 = false := by cases hex <;> decide
theorem dig_noX (c : UInt8) (h : isX c = true) : isD c = false := by
  unfold isX at h
  rw [Bool.or_eq_true, beq_iff_eq, beq_iff_eq] at h
  rcases h with rfl | rfl <;> decide
theorem numT_of (hex : Bool) (ds r : List UInt8) (h1 : 1 ≤ ds.length) (h2 : ds.length ≤ 7) (h3 : ds.all (digP hex) = true) : numT hex (ds ++ [59] ++ r) = some (chrOf (valN (baseN hex) ds), ds.length + 1) := by
  unfold numT
  rw [List.append_assoc, List.singleton_append, takeWhile_stop _ ds 59 r h3 (dig_no59 hex)]
  rw [if_pos ⟨h1, h2, by simp⟩]
theorem takeWhile_split (p : UInt8 → Bool) (t : List UInt8) : t = t.takeWhile p ++ t.drop (t.takeWhile p).length ∧ (t.takeWhile p).all p = true := by
  induction t with
  | nil => simp
  | cons c t ih =>
    rw [List.takeWhile_cons]
    cases hc : p c with
    | false => simp
    | true =>
      rw [if_pos rfl]
      refine ⟨?_, ?_⟩
      · rw [List.cons_append, List.length_cons, List.drop_succ_cons, ← ih.1]
      · rw [List.all_cons, hc, ih.2]; rfl
theorem numT_some (hex : Bool) (t : List UInt8) (x : List UInt8) (k : Nat) (h : numT hex t = some (x, k)) : ∃ ds r, t = ds ++ [59] ++ r ∧ 1 ≤ ds.length ∧ ds.length ≤ 7 ∧ ds.all (digP hex) = true ∧ x = chrOf (valN (baseN hex) ds) ∧ k = ds.length + 1 := by
  unfold numT at h
  by_cases hc : 1 ≤ (t.takeWhile (digP hex)).length ∧ (t.takeWhile (digP hex)).length ≤ 7 ∧ t[(t.takeWhile (digP hex)).length]? = some 59
  · rw [if_pos hc] at h
    injection h with h
    injection h with ha hb
    have hs := takeWhile_split (digP hex) t
    obtain ⟨c1, c2, c3⟩ := hc
    have hlt : (t.takeWhile (digP hex)).length < t.length := by
      rcases Nat.lt_or_ge (t.takeWhile (digP hex)).length t.length with h' | h'
      · exact h'
      · rw [List.getElem?_eq_none h'] at c3; cases c3
    rw [List.getElem?_eq_getElem hlt] at c3
    injection c3 with c3
    refine ⟨t.takeWhile (digP hex), t.drop ((t.takeWhile (digP hex)).length + 1), ?_, c1, c2, hs.2, ha.symm, hb.symm⟩
    have := hs.1
    rw [List.drop_eq_getElem_cons hlt, c3] at this
    rw [List.append_assoc, List.singleton_append]; exact this
  · rw [if_neg hc] at h; cases h
theorem namedL_none_num (t : List UInt8) : namedL (38 :: 35 :: t) = none := by
  simp [namedL, names, List.find?, List.isPrefixOf]
theorem mtch_one (m x r : List UInt8) (h : Mtch m x) : oneR (m ++ r) = (x, m.length) := by
  rcases h with ⟨p, hp, rfl, rfl⟩ | ⟨hex, pre, ds, hx, h1, h2, h3, rfl, rfl⟩
  · simp only [names, List.mem_cons, List.not_mem_nil, or_false] at hp
    rcases hp with rfl | rfl | rfl | rfl | rfl <;> simp [oneR, namedL, names, List.find?, List.isPrefixOf]
  · unfold oneR
    have e0 : (38 :: 35 :: (pre ++ ds ++ [59])) ++ r = 38 :: 35 :: (pre ++ (ds ++ [59] ++ r)) := by simp
    rw [e0, namedL_none_num]
    show numL _ = _
    have hn := numT_of hex ds r h1 h2 h3
    rcases hx with ⟨rfl, hp⟩ | ⟨rfl, rfl⟩
    · rcases hp with rfl | rfl
      · show numL (38 :: 35 :: 120 :: (ds ++ [59] ++ r)) = _
        simp only [numL]
        rw [if_pos (by decide), hn]; simp
      · show numL (38 :: 35 :: 88 :: (ds ++ [59] ++ r)) = _
        simp only [numL]
        rw [if_pos (by decide), hn]; simp
    · cases ds with
      | nil => simp at h1
      | cons d ds =>
        have hd : isD d = true := by rw [List.all_cons, Bool.and_eq_true] at h3; exact h3.1
        have hX : isX d = false := by
          cases e : isX d with
          | false => rfl
          | true => rw [dig_noX d e] at hd; cases hd
        show numL (38 :: 35 :: d :: (ds ++ [59] ++ r)) = _
        simp only [numL]
        rw [if_neg (by rw [hX]; simp)]
        have hn' : numT false (d :: (ds ++ [59] ++ r)) = _ := hn
        rw [hn']; simp
theorem one_mtch (s : List UInt8) : (oneR s = ([], 0)) ∨ ∃ m x r, s = m ++ r ∧ Mtch m x := by
  unfold oneR
  cases hn : namedL s with
  | some q =>
    right
    unfold namedL at hn
    rw [Option.map_eq_some_iff] at hn
    obtain ⟨p, hp, _⟩ := hn
    have h1 := List.find?_some hp
    have h2 := List.mem_of_find?_eq_some hp
    rw [List.isPrefixOf_iff_prefix] at h1
    obtain ⟨r, hr⟩ := h1
    exact ⟨_, _, r, hr.symm, .inl ⟨p, h2, rfl, rfl⟩⟩
  | none =>
    show numL s = _ ∨ _
    unfold numL
    split
    · rename_i t
      split
      · exact .inl rfl
      · rename_i c u
        by_cases hx : isX c = true
        · rw [if_pos hx]
          cases hT : numT true u with
          | none => exact .inl rfl
          | some q =>
            obtain ⟨x, k⟩ := q
            right
            obtain ⟨ds, r, h0, h1, h2, h3, h4, h5⟩ := numT_some _ _ _ _ hT
            refine ⟨38 :: 35 :: ([c] ++ ds ++ [59]), x, r, by rw [h0]; simp, .inr ⟨true, [c], ds, .inl ⟨rfl, ?_⟩, h1, h2, h3, rfl, h4⟩⟩
            unfold isX at hx
            rw [Bool.or_eq_true, beq_iff_eq, beq_iff_eq] at hx
            rcases hx with rfl | rfl
            · exact .inl rfl
            · exact .inr rfl
        · rw [if_neg hx]
          cases hT : numT false (c :: u) with
          | none => exact .inl rfl
          | some q =>
            obtain ⟨x, k⟩ := q
            right
            obtain ⟨ds, r, h0, h1, h2, h3, h4, h5⟩ := numT_some _ _ _ _ hT
            exact ⟨38 :: 35 :: ([] ++ ds ++ [59]), x, r, by rw [h0]; simp, .inr ⟨false, [], ds, .inr ⟨rfl, rfl⟩, h1, h2, h3, rfl, h4⟩⟩
    · exact .inl rfl
/-- a reference's inner octets: no ';' -/
theorem mtch_shape (m x : List UInt8) (h : Mtch m x) : ∃ u, m = 38 :: (u ++ [59]) ∧ (59 : UInt8) ∉ u ∧ 1 ≤ u.length ∧ u.length ≤ 9 ∧ x ≠ [] ∧ x.length ≤ 4 := by
  rcases h with ⟨p, hp, rfl, rfl⟩ | ⟨hex, pre, ds, hx, h1, h2, h3, rfl, rfl⟩
  · simp only [names, List.mem_cons, List.not_mem_nil, or_false] at hp
    rcases hp with rfl | rfl | rfl | rfl | rfl <;> exact ⟨_, rfl, by decide, by decide, by decide, by decide, by decide⟩
  · have hd : (59 : UInt8) ∉ ds := fun hm => by
      have := List.all_eq_true.1 h3 59 hm
      rw [dig_no59] at this; cases this
    have hxx : chrOf (valN (baseN hex) ds) ≠ [] ∧ (chrOf (valN (baseN hex) ds)).length ≤ 4 := by
      unfold chrOf
      split
      · exact ⟨encodeRune_ne _, (encodeRune_len _).2⟩
      · exact ⟨by decide, by decide⟩
    have hpl : pre.length ≤ 1 ∧ (59 : UInt8) ∉ pre := by
      rcases hx with ⟨_, rfl | rfl⟩ | ⟨_, rfl⟩ <;> decide
    refine ⟨35 :: (pre ++ ds), by simp, ?_, by simp, by simp; omega, hxx.1, hxx.2⟩
    simp only [List.mem_cons, List.mem_append, not_or]
    exact ⟨by decide, hpl.2, hd⟩
theorem one_other (s : List UInt8) (h : ∀ m x r, s = m ++ r → Mtch m x → False) : oneR s = ([], 0) := by
  rcases one_mtch s with e | ⟨m, x, r, h1, h2⟩
  · exact e
  · exact (h m x r h1 h2).elim
/-- decoded -/
def decodeR : Nat → List UInt8 → List UInt8
  | 0, _ => []
  | n + 1, s => match s with
    | [] => []
    | c :: t => if 0 < (oneR (c :: t)).2 then (oneR (c :: t)).1 ++ decodeR n ((c :: t).drop (oneR (c :: t)).2) else c :: decodeR n t
def decL (s : List UInt8) : List UInt8 := decodeR s.length s
theorem decodeR_more : ∀ (n m : Nat) (s : List UInt8), s.length ≤ n → s.length ≤ m → decodeR n s = decodeR m s
  | 0, m, s, h1, h2 => by
    obtain rfl : s = [] := List.eq_nil_of_length_eq_zero (by omega)
    cases m <;> rfl
  | n + 1, 0, s, h1, h2 => by
    obtain rfl : s = [] := List.eq_nil_of_length_eq_zero (by omega)
    rfl
  | n + 1, m + 1, [], h1, h2 => rfl
  | n + 1, m + 1, c :: t, h1, h2 => by
    simp only [List.length_cons] at h1 h2
    simp only [decodeR]
    by_cases h : 0 < (oneR (c :: t)).2
    · rw [if_pos h, if_pos h, decodeR_more n m _ (by rw [List.length_drop, List.length_cons]; omega) (by rw [List.length_drop, List.length_cons]; omega)]
    · rw [if_neg h, if_neg h, decodeR_more n m t (by omega) (by omega)]
theorem decL_nil : decL [] = [] := rfl
theorem decL_cons (c : UInt8) (t : List UInt8) : decL (c :: t) = if 0 < (oneR (c :: t)).2 then (oneR (c :: t)).1 ++ decL ((c :: t).drop (oneR (c :: t)).2) else c :: decL t := by
  unfold decL
  simp only [List.length_cons, decodeR]
  by_cases h : 0 < (oneR (c :: t)).2
  · rw [if_pos h, if_pos h, decodeR_more t.length _ _ (by rw [List.length_drop, List.length_cons]; omega) (Nat.le_refl _)]
  · rw [if_neg h, if_neg h]
theorem decL_mtch (m x r : List UInt8) (h : Mtch m x) : decL (m ++ r) = x ++ decL r := by
  have h1 := mtch_one m x r h
  obtain ⟨u, hu, _⟩ := mtch_shape m x h
  cases m with
  | nil => cases hu
  | cons c t =>
    rw [List.cons_append] at h1 ⊢
    rw [decL_cons, h1, if_pos (by simp)]
    simp
theorem decL_step (c : UInt8) (t : List UInt8) (h : oneR (c :: t) = ([], 0)) : decL (c :: t) = c :: decL t := by
  rw [decL_cons, h, if_neg (by simp)]
theorem one_notamp (c : UInt8) (t : List UInt8) (h : c ≠ 38) : oneR (c :: t) = ([], 0) := by
  refine one_other _ (fun m x r e hm => ?_)
  obtain ⟨u, hu, _⟩ := mtch_shape m x hm
  rw [hu] at e
  injection e with e1 e2
  exact h e1
/-- an octet escaped -/
def escB (c : UInt8) : List UInt8 :=
  if c = 38 then [38, 97, 109, 112, 59] else if c = 60 then [38, 108, 116, 59] else if c = 62 then [38, 103, 116, 59] else if c = 34 then [38, 35, 51, 52, 59] else if c = 39 then [38, 35, 51, 57, 59] else if c = 43 then [38, 35, 52, 51, 59] else [c]
def escA (l : List UInt8) : List UInt8 := l.flatMap escB
def escL (l : List UInt8) : List UInt8 := escA (repairL l)
theorem escA_snoc (l : List UInt8) (c : UInt8) : escA (l ++ [c]) = escA l ++ escB c := by simp [escA]
theorem escB_len (c : UInt8) : (escB c).length ≤ 5 := by unfold escB; repeat' split
                                                         all_goals simp
theorem escA_len (l : List UInt8) : (escA l).length ≤ 5 * l.length := by
  induction l with
  | nil => simp [escA]
  | cons c l ih =>
    have := escB_len c
    have e : escA (c :: l) = escB c ++ escA l := by simp [escA]
    rw [e, List.length_append, List.length_cons]; omega
theorem dec_escB (c : UInt8) (r : List UInt8) : decL (escB c ++ r) = c :: decL r := by
  have num : ∀ (d e c : UInt8), isD d = true → isD e = true → chrOf (valN 10 [d, e]) = [c] → Mtch [38, 35, d, e, 59] [c] := fun d e c hd he hc =>
    .inr ⟨false, [], [d, e], .inr ⟨rfl, rfl⟩, by simp, by simp, by simp [digP, hd, he], rfl, hc.symm⟩
  unfold escB
  split
  · rename_i h; subst h; exact decL_mtch _ [38] r (.inl ⟨([97, 109, 112], 38), by simp [names], rfl, rfl⟩)
  split
  · rename_i h; subst h; exact decL_mtch _ [60] r (.inl ⟨([108, 116], 60), by simp [names], rfl, rfl⟩)
  split
  · rename_i h; subst h; exact decL_mtch _ [62] r (.inl ⟨([103, 116], 62), by simp [names], rfl, rfl⟩)
  split
  · rename_i h; subst h; exact decL_mtch _ [34] r (num 51 52 34 (by decide) (by decide) (by decide))
  split
  · rename_i h; subst h; exact decL_mtch _ [39] r (num 51 57 39 (by decide) (by decide) (by decide))
  split
  · rename_i h; subst h; exact decL_mtch _ [43] r (num 52 51 43 (by decide) (by decide) (by decide))
  · rename_i h _ _ _ _ _
    rw [List.singleton_append, decL_step c r (one_notamp c r h)]
theorem dec_escA (l r : List UInt8) : decL (escA l ++ r) = l ++ decL r := by
  induction l with
  | nil => rfl
  | cons c l ih =>
    have e : escA (c :: l) ++ r = escB c ++ (escA l ++ r) := by simp [escA]
    rw [e, dec_escB, ih]; rfl
theorem dec_esc (l : List UInt8) : decL (escL l) = repairL l := by
  have := dec_escA (repairL l) []
  rw [List.append_nil, decL_nil, List.append_nil] at this
  exact this
def cleanL (l : List UInt8) : Bool := !hasB l 60 && !hasB l 62 && !hasB l 34 && !hasB l 39
theorem escB_clean (c d : UInt8) (h : d ∈ escB c) : d ≠ 60 ∧ d ≠ 62 ∧ d ≠ 34 ∧ d ≠ 39 := by
  revert h
  unfold escB
  split
  · intro h; revert d; decide
  split
  · intro h; revert d; decide
  split
  · intro h; revert d; decide
  split
  · intro h; revert d; decide
  split
  · intro h; revert d; decide
  split
  · intro h; revert d; decide
  · intro h
    rw [List.mem_singleton] at h
    subst h
    exact ⟨by assumption, by assumption, by assumption, by assumption⟩
theorem esc_clean (l : List UInt8) : cleanL (escL l) = true := by
  have key : ∀ d ∈ escL l, d ≠ 60 ∧ d ≠ 62 ∧ d ≠ 34 ∧ d ≠ 39 := by
    intro d hd
    unfold escL escA at hd
    rw [List.mem_flatMap] at hd
    obtain ⟨c, _, h⟩ := hd
    exact escB_clean c d h
  unfold cleanL
  rw [hasB_false (fun h => (key _ h).1 rfl), hasB_false (fun h => (key _ h).2.1 rfl), hasB_false (fun h => (key _ h).2.2.1 rfl), hasB_false (fun h => (key _ h).2.2.2 rfl)]
  rfl
end Go.Proofs.Ytihgmgpcdodknaa
