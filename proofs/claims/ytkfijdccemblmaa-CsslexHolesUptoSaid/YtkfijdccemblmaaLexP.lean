/- Plain: the pieces of a style (package csslex), on lists of octets. No program in sight. -/
import Derived.Test.YtkfijdccemblmaaCssP
import Derived.Lib.IndexLaws
set_option linter.unusedVariables false
namespace Go.Proofs.Ytkfijdccemblmaa
open Go.RowKit

/-- octets of a text behind its quote, up to its end -/
def quotN (q : UInt8) : List UInt8 → Option Nat
  | [] => none
  | [c] => if c = 92 then none else if c = 10 ∨ c = 13 then none else if c = q then some 1 else none
  | c :: d :: r => if c = 92 then (quotN q r).map (· + 2) else if c = 10 ∨ c = 13 then none else if c = q then some 1 else (quotN q (d :: r)).map (· + 1)
theorem quotN_esc (q : UInt8) (r : List UInt8) : quotN q (92 :: r) = (quotN q (r.drop 1)).map (· + 2) := by
  cases r with
  | nil => simp [quotN]
  | cons d r => simp [quotN]
theorem quotN_line (q c : UInt8) (r : List UInt8) (h : c = 10 ∨ c = 13) : quotN q (c :: r) = none := by
  have h1 : c ≠ 92 := by rcases h with rfl | rfl <;> decide
  cases r with
  | nil => simp [quotN, h1, h]
  | cons d r => simp [quotN, h1, h]
theorem quotN_end (q c : UInt8) (r : List UInt8) (h1 : c ≠ 92) (h2 : ¬ (c = 10 ∨ c = 13)) (h : c = q) : quotN q (c :: r) = some 1 := by
  subst h
  cases r with
  | nil => simp [quotN, h1, h2]
  | cons d r => simp [quotN, h1, h2]
theorem quotN_more (q c : UInt8) (r : List UInt8) (h1 : c ≠ 92) (h2 : ¬ (c = 10 ∨ c = 13)) (h : c ≠ q) : quotN q (c :: r) = (quotN q r).map (· + 1) := by
  cases r with
  | nil => simp [quotN, h1, h2, h]
  | cons d r => simp [quotN, h1, h2, h]
theorem quotN_le (q : UInt8) : ∀ (m : Nat) (l : List UInt8) (n : Nat), l.length ≤ m → quotN q l = some n → 1 ≤ n ∧ n ≤ l.length := by
  intro m
  induction m with
  | zero =>
    intro l n hl h
    obtain rfl : l = [] := List.eq_nil_of_length_eq_zero (by omega)
    simp [quotN] at h
  | succ m ih =>
    intro l n hl h
    cases l with
    | nil => simp [quotN] at h
    | cons c r =>
      rw [List.length_cons] at hl ⊢
      by_cases h1 : c = 92
      · subst h1
        rw [quotN_esc, Option.map_eq_some_iff] at h
        obtain ⟨k, hk, rfl⟩ := h
        have := ih (r.drop 1) k (by rw [List.length_drop]; omega) hk
        rw [List.length_drop] at this; omega
      · by_cases h2 : c = 10 ∨ c = 13
        · rw [quotN_line q c r h2] at h; cases h
        · by_cases h3 : c = q
          · rw [quotN_end q c r h1 h2 h3] at h; injection h with h; omega
          · rw [quotN_more q c r h1 h2 h3, Option.map_eq_some_iff] at h
            obtain ⟨k, hk, rfl⟩ := h
            have := ih r k (by omega) hk
            omega

/-- where p stands in l -/
def idxO (l p : List UInt8) : Option Nat := if Lib.index l p < 0 then none else some (Lib.index l p).toNat
theorem idxO_le (l p : List UInt8) (n : Nat) (hp : p ≠ []) (h : idxO l p = some n) : n + p.length ≤ l.length := by
  unfold idxO at h
  split at h
  · cases h
  · rename_i h0
    injection h with h
    by_cases hex : ∃ j, j ≤ l.length ∧ Lib.occAt l p j = true
    · have hmin : ∃ j, (j ≤ l.length ∧ Lib.occAt l p j = true) ∧ ∀ i, i < j → Lib.occAt l p i = false := by
        obtain ⟨j, hj⟩ := hex
        induction j using Nat.strongRecOn with
        | ind j ih =>
          by_cases hi : ∃ i, i < j ∧ Lib.occAt l p i = true
          · obtain ⟨i, hi1, hi2⟩ := hi
            exact ih i hi1 ⟨by omega, hi2⟩
          · refine ⟨j, hj, fun i hij => ?_⟩
            cases e : Lib.occAt l p i with
            | false => rfl
            | true => exact absurd ⟨i, hij, e⟩ hi
      obtain ⟨j, ⟨hj1, hj2⟩, hj3⟩ := hmin
      have e := Lib.index_first hj1 hj2 hj3
      rcases Lib.occAt_room hj2 with h1 | h1
      · omega
      · exact absurd h1 hp
    · have := Lib.index_none (s := l) (sub := p) (fun j hj => by
        cases e : Lib.occAt l p j with
        | false => rfl
        | true => exact absurd ⟨j, hj, e⟩ hex)
      omega
theorem isPrefix_index (l p : List UInt8) (h : p.isPrefixOf l = true) : Lib.index l p = 0 := Lib.index_first (i := 0) (Nat.zero_le _) (by simpa [Lib.occAt] using h) (fun _ h => absurd h (Nat.not_lt_zero _))
theorem idxO_cons (c : UInt8) (l p : List UInt8) : idxO (c :: l) p = if p.isPrefixOf (c :: l) then some 0 else (idxO l p).map (· + 1) := by
  unfold idxO
  have hge := Lib.index_ge l p
  rw [Lib.index]
  by_cases h : p.isPrefixOf (c :: l) = true
  · rw [if_pos h, if_pos h]; rfl
  · rw [if_neg h, if_neg h]
    obtain ⟨i, hi⟩ : ∃ i, Lib.index l p = i := ⟨_, rfl⟩
    rw [hi] at hge ⊢
    by_cases h2 : i = -1
    · subst h2; rfl
    · have h3 : (i == -1) = false := beq_eq_false_iff_ne.2 h2
      simp only [h3, Bool.false_eq_true, if_false]
      rw [if_neg (by omega), if_neg (by omega)]
      simp only [Option.map_some]
      congr 1; omega

/-- a piece's kind, and how many octets it has -/
def namP (l : List UInt8) : Int × Option Nat :=
  if low (l.takeWhile isWordy) = [117, 114, 108] ∧ l[(l.takeWhile isWordy).length]? = some 40 then
    (4, (idxO (l.drop (l.takeWhile isWordy).length) [41]).map (· + ((l.takeWhile isWordy).length + 1)))
  else (1, some (l.takeWhile isWordy).length)
def oneP : List UInt8 → Int × Option Nat
  | [] => (5, some 1)
  | c :: r =>
    if isWordy c then namP (c :: r)
    else if c = 34 ∨ c = 39 then (2, (quotN c r).map (· + 1))
    else if [47, 42].isPrefixOf (c :: r) then (3, (idxO ((c :: r).drop 2) [42, 47]).map (· + 4))
    else if c = 92 ∧ r ≠ [] then (5, some 2) else (5, some 1)
theorem oneP_cons (c : UInt8) (r : List UInt8) : oneP (c :: r) = if isWordy c then namP (c :: r)
    else if c = 34 ∨ c = 39 then (2, (quotN c r).map (· + 1))
    else if [47, 42].isPrefixOf (c :: r) then (3, (idxO ((c :: r).drop 2) [42, 47]).map (· + 4))
    else if c = 92 ∧ r ≠ [] then (5, some 2) else (5, some 1) := rfl
/-- where it ends; -1: nowhere -/
def endI (k : Nat) : Option Nat → Int
  | none => -1
  | some n => (k : Int) + n
theorem endI_map (k m : Nat) (x : Option Nat) : endI k (x.map (· + m)) = endI (k + m) x := by
  cases x with
  | none => rfl
  | some n => simp only [Option.map_some, endI]; omega
theorem oneP_le (c : UInt8) (r : List UInt8) (n : Nat) (h : (oneP (c :: r)).2 = some n) : 1 ≤ n ∧ n ≤ r.length + 1 := by
  rw [oneP_cons] at h
  by_cases h1 : isWordy c = true
  · rw [if_pos h1] at h
    have hw : 1 ≤ ((c :: r).takeWhile isWordy).length := by rw [List.takeWhile_cons, if_pos h1]; simp
    have hw2 : ((c :: r).takeWhile isWordy).length ≤ (c :: r).length := (List.takeWhile_sublist _).length_le
    rw [List.length_cons] at hw2
    unfold namP at h
    split at h
    · simp only [Option.map_eq_some_iff] at h
      obtain ⟨k, hk, rfl⟩ := h
      have := idxO_le _ _ k (by simp) hk
      simp only [List.length_drop, List.length_cons, List.length_nil] at this hw hw2
      omega
    · simp only [Option.some.injEq] at h; omega
  · rw [if_neg h1] at h
    by_cases h2 : c = 34 ∨ c = 39
    · rw [if_pos h2] at h
      simp only [Option.map_eq_some_iff] at h
      obtain ⟨k, hk, rfl⟩ := h
      have := quotN_le c r.length r k (Nat.le_refl _) hk
      omega
    · rw [if_neg h2] at h
      by_cases h3 : [47, 42].isPrefixOf (c :: r) = true
      · rw [if_pos h3] at h
        simp only [Option.map_eq_some_iff] at h
        obtain ⟨k, hk, rfl⟩ := h
        have := idxO_le _ _ k (by simp) hk
        simp only [List.length_drop, List.length_cons, List.length_nil] at this
        omega
      · rw [if_neg h3] at h
        by_cases h4 : c = 92 ∧ r ≠ []
        · rw [if_pos h4] at h
          simp only [Option.some.injEq] at h
          have : r.length ≠ 0 := by simpa using h4.2
          omega
        · rw [if_neg h4] at h
          simp only [Option.some.injEq] at h; omega

/-- a piece -/
structure Pc where
  k : Int
  x : List UInt8
  a : Nat
/-- the pieces of what stands from a place on, behind those that were read; where a fault is, and which -/
def pcsR : Nat → List UInt8 → Nat → List Pc → List Pc × Nat × Int
  | 0, _, a, acc => (acc, a, 0)
  | _, [], a, acc => (acc, a, 0)
  | f + 1, c :: r, a, acc =>
    if isBlank c then pcsR f r (a + 1) acc else
    match (oneP (c :: r)).2 with
    | none => ([], a, 33)
    | some n => if acc.length < 4096 then pcsR f ((c :: r).drop n) (a + n) (acc ++ [⟨(oneP (c :: r)).1, (c :: r).take n, a⟩]) else ([], a, 3)
theorem pcsR_nil (f a : Nat) (acc : List Pc) : pcsR f [] a acc = (acc, a, 0) := by cases f <;> rfl
theorem pcsR_more : ∀ (f g : Nat) (l : List UInt8) (a : Nat) (acc : List Pc), l.length ≤ f → l.length ≤ g → pcsR f l a acc = pcsR g l a acc := by
  intro f
  induction f with
  | zero =>
    intro g l a acc h1 h2
    obtain rfl : l = [] := List.eq_nil_of_length_eq_zero (by omega)
    rw [pcsR_nil, pcsR_nil]
  | succ f ih =>
    intro g l a acc h1 h2
    cases l with
    | nil => rw [pcsR_nil, pcsR_nil]
    | cons c r =>
      rw [List.length_cons] at h1 h2
      cases g with
      | zero => omega
      | succ g =>
        unfold pcsR
        by_cases hb : isBlank c = true
        · rw [if_pos hb, if_pos hb]; exact ih g r _ _ (by omega) (by omega)
        · rw [if_neg hb, if_neg hb]
          cases hn : (oneP (c :: r)).2 with
          | none => rfl
          | some n =>
            have hle := oneP_le c r n hn
            simp only
            split
            · exact ih g _ _ _ (by rw [List.length_drop, List.length_cons]; omega) (by rw [List.length_drop, List.length_cons]; omega)
            · rfl
/-- from a place on -/
def pcsT (l : List UInt8) (a : Nat) (acc : List Pc) : List Pc × Nat × Int := pcsR l.length l a acc
theorem pcsT_nil (a : Nat) (acc : List Pc) : pcsT [] a acc = (acc, a, 0) := rfl
theorem pcsT_blank (c : UInt8) (r : List UInt8) (a : Nat) (acc : List Pc) (h : isBlank c = true) : pcsT (c :: r) a acc = pcsT r (a + 1) acc := by
  unfold pcsT; rw [List.length_cons, pcsR, if_pos h]
theorem pcsT_none (c : UInt8) (r : List UInt8) (a : Nat) (acc : List Pc) (h : isBlank c = false) (hn : (oneP (c :: r)).2 = none) : pcsT (c :: r) a acc = ([], a, 33) := by
  unfold pcsT; rw [List.length_cons, pcsR, if_neg (by rw [h]; simp), hn]
theorem pcsT_full (c : UInt8) (r : List UInt8) (a n : Nat) (acc : List Pc) (h : isBlank c = false) (hn : (oneP (c :: r)).2 = some n) (hf : ¬ acc.length < 4096) : pcsT (c :: r) a acc = ([], a, 3) := by
  unfold pcsT; rw [List.length_cons, pcsR, if_neg (by rw [h]; simp), hn]; simp only [if_neg hf]
theorem pcsT_some (c : UInt8) (r : List UInt8) (a n : Nat) (acc : List Pc) (h : isBlank c = false) (hn : (oneP (c :: r)).2 = some n) (hf : acc.length < 4096) : pcsT (c :: r) a acc = pcsT ((c :: r).drop n) (a + n) (acc ++ [⟨(oneP (c :: r)).1, (c :: r).take n, a⟩]) := by
  have hle := oneP_le c r n hn
  unfold pcsT
  rw [List.length_cons, pcsR, if_neg (by rw [h]; simp), hn]; simp only [if_pos hf]
  exact pcsR_more _ _ _ _ _ (by rw [List.length_drop, List.length_cons]; omega) (Nat.le_refl _)
/-- the pieces of a text; where a fault is, and which -/
def pieces (s : List UInt8) : List Pc × Nat × Int := if s.length ≤ 65536 then pcsT s 0 [] else ([], 0, 5)
end Go.Proofs.Ytkfijdccemblmaa
