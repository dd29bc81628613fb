/- Plain: where in a URL (package urlscan), on lists of octets. No program in sight. -/
import Derived.Test.YteepmeejpkbkpaaPlain
set_option linter.unusedVariables false
namespace Go.Proofs.Yteepmeejpkbkpaa
open Go.RowKit

def sHttp : List UInt8 := [104, 116, 116, 112]
def sHttps : List UInt8 := [104, 116, 116, 112, 115]
def sMailto : List UInt8 := [109, 97, 105, 108, 116, 111]
/-- may a scheme be? -/
def allowedL (l : List UInt8) : Bool := l == sHttp || l == sHttps || l == sMailto

def uFirst (w : List UInt8) (c : UInt8) : Int × List UInt8 :=
  if c = 47 then (2, []) else if c = 63 ∨ c = 35 then (3, []) else
  if c = 58 then (if allowedL w then (2, []) else (5, [])) else
  if w.length < 16 then (1, w ++ [lowB c]) else (1, w)

def uStep (p : Int) (w : List UInt8) (c : UInt8) : Int × List UInt8 :=
  if p = 0 then uFirst [] c else if p = 1 then uFirst w c else
  if p = 2 then (if c = 63 ∨ c = 35 then (3, []) else (2, [])) else
  if p = 3 then (3, []) else
  if p = 4 then (if c = 63 ∨ c = 35 then (3, []) else if c = 47 then (2, []) else if c = 58 then (5, []) else (4, [])) else
  (5, [])

def uFeed (p : Int) (w : List UInt8) (s : List UInt8) : Int × List UInt8 := s.foldl (fun x c => uStep x.1 x.2 c) (p, w)

theorem uFeed_append (p : Int) (w a b : List UInt8) : uFeed p w (a ++ b) = uFeed (uFeed p w a).1 (uFeed p w a).2 b := by
  simp [uFeed]
theorem uFeed_take (p : Int) (w s : List UInt8) (k : Nat) (h : k < s.length) :
    uFeed p w (s.take (k + 1)) = uStep (uFeed p w (s.take k)).1 (uFeed p w (s.take k)).2 s[k] := by
  rw [List.take_succ_eq_append_getElem h, uFeed_append]; simp [uFeed]
theorem uFirst_len (w : List UInt8) (c : UInt8) (h : w.length ≤ 16) : (uFirst w c).2.length ≤ 16 := by
  unfold uFirst; repeat' split
  all_goals simp; try omega
theorem uStep_len (p : Int) (w : List UInt8) (c : UInt8) (h : w.length ≤ 16) : (uStep p w c).2.length ≤ 16 := by
  unfold uStep
  repeat' split
  all_goals first | (simp; done) | exact uFirst_len _ _ (by simp) | exact uFirst_len _ _ h
theorem uFirst_part (w : List UInt8) (c : UInt8) : 0 ≤ (uFirst w c).1 ∧ (uFirst w c).1 ≤ 5 := by
  unfold uFirst; repeat' split
  all_goals simp
theorem uStep_part (p : Int) (w : List UInt8) (c : UInt8) : 0 ≤ (uStep p w c).1 ∧ (uStep p w c).1 ≤ 5 := by
  unfold uStep
  repeat' split
  all_goals first | (simp; done) | exact uFirst_part _ _
theorem uFeed_ok (s : List UInt8) : ∀ (p : Int) (w : List UInt8), w.length ≤ 16 → 0 ≤ p → p ≤ 5 → (uFeed p w s).2.length ≤ 16 ∧ 0 ≤ (uFeed p w s).1 ∧ (uFeed p w s).1 ≤ 5 := by
  induction s with
  | nil => intro p w h h0 h1; exact ⟨h, h0, h1⟩
  | cons c s ih =>
    intro p w h h0 h1
    have e : uFeed p w (c :: s) = uFeed (uStep p w c).1 (uStep p w c).2 s := by simp [uFeed]
    rw [e]
    exact ih _ _ (uStep_len p w c h) (uStep_part p w c).1 (uStep_part p w c).2

/-- alive -/
theorem uFeed_alive : uFeed 0 [] [47, 97, 63, 98] = (3, []) := by decide

theorem uFeed_three (s : List UInt8) : uFeed 3 [] s = (3, []) := by
  induction s with
  | nil => rfl
  | cons c s ih =>
    have e : uFeed 3 [] (c :: s) = uFeed 3 [] s := by simp [uFeed, uStep]
    rw [e, ih]
theorem uFeed_path (s : List UInt8) : uFeed 2 [] s = (2, []) ∨ uFeed 2 [] s = (3, []) := by
  induction s with
  | nil => exact .inl rfl
  | cons c s ih =>
    by_cases h : c = 63 ∨ c = 35
    · have e : uFeed 2 [] (c :: s) = uFeed 3 [] s := by simp [uFeed, uStep, h]
      rw [e, uFeed_three]; exact .inr rfl
    · have e : uFeed 2 [] (c :: s) = uFeed 2 [] s := by simp [uFeed, uStep, h]
      rw [e]; exact ih
theorem uFeed_query (a s : List UInt8) : (uFeed 0 [] ([47] ++ a ++ [63] ++ s)).1 = 3 := by
  have e : uFeed 0 [] ([47] ++ a ++ [63] ++ s) = uFeed 2 [] (a ++ ([63] ++ s)) := by simp [uFeed, uStep, uFirst]
  rw [e, uFeed_append]
  have e3 : ∀ t, uFeed 3 [] t = (3, []) := uFeed_three
  rcases uFeed_path a with h | h
  · rw [h]
    have : uFeed 2 [] ([63] ++ s) = uFeed 3 [] s := by simp [uFeed, uStep]
    rw [this, e3]
  · rw [h, e3]

/-- the reference's scheme of what follows 'pre' -/
def schemeGo (pre : List UInt8) : List UInt8 → List UInt8 × Bool
  | [] => ([], false)
  | c :: r => if c = 58 then (low pre, true) else if c = 47 ∨ c = 63 ∨ c = 35 then ([], false) else schemeGo (pre ++ [c]) r

theorem uFeed_five (s : List UInt8) : (uFeed 5 [] s).1 = 5 := by
  induction s with
  | nil => rfl
  | cons c s ih =>
    have e : uFeed 5 [] (c :: s) = uFeed 5 [] s := by simp [uFeed, uStep]
    rw [e, ih]
theorem uFeed_cons (p : Int) (w : List UInt8) (c : UInt8) (s : List UInt8) : uFeed p w (c :: s) = uFeed (uStep p w c).1 (uStep p w c).2 s := by simp [uFeed]
theorem schemeGo_len (s : List UInt8) : ∀ pre, (schemeGo pre s).2 = true → pre.length ≤ (schemeGo pre s).1.length := by
  induction s with
  | nil => intro pre h; simp [schemeGo] at h
  | cons c s ih =>
    intro pre h
    unfold schemeGo at h ⊢
    by_cases h1 : c = 58
    · rw [if_pos h1]; simp [low_length]
    · rw [if_neg h1] at h ⊢
      by_cases h2 : c = 47 ∨ c = 63 ∨ c = 35
      · rw [if_pos h2] at h; simp at h
      · rw [if_neg h2] at h ⊢
        have := ih _ h
        simp at this; omega
theorem uFeed_scheme (s : List UInt8) : ∀ (pre w : List UInt8) (p : Int), (p = 0 ∧ pre = [] ∨ p = 1) → (pre.length ≤ 16 → w = low pre) → (pre.length > 16 → w.length = 16) →
    (schemeGo pre s).1.length ≤ 16 → ((uFeed p w s).1 = 5 ↔ ((schemeGo pre s).2 = true ∧ allowedL (schemeGo pre s).1 = false)) := by
  induction s with
  | nil => intro pre w p hp _ _ _; rcases hp with ⟨rfl, _⟩ | rfl <;> simp [uFeed, schemeGo]
  | cons c s ih =>
    intro pre w p hp hw hw2 hl
    have hst : uStep p w c = uFirst w c := by
      rcases hp with ⟨rfl, rfl⟩ | rfl
      · rw [hw (by simp)]; simp [uStep, low]
      · simp [uStep]
    rw [uFeed_cons, hst]
    have h58 : (58 : UInt8) ≠ 47 ∧ (58 : UInt8) ≠ 63 ∧ (58 : UInt8) ≠ 35 := by decide
    by_cases h1 : c = 58
    · subst h1
      have e : schemeGo pre (58 :: s) = (low pre, true) := by simp [schemeGo]
      rw [e] at hl ⊢
      have hpl : pre.length ≤ 16 := by simpa [low_length] using hl
      have ew := hw hpl
      subst ew
      by_cases ha : allowedL (low pre) = true
      · have e2 : uFirst (low pre) 58 = (2, []) := by simp [uFirst, ha]
        rw [e2]
        have : (uFeed 2 [] s).1 ≠ 5 := by rcases uFeed_path s with h | h <;> rw [h] <;> simp
        simp [ha, this]
      · have ha' : allowedL (low pre) = false := by simpa using ha
        have e2 : uFirst (low pre) 58 = (5, []) := by simp [uFirst, ha']
        rw [e2, uFeed_five]
        simp [ha']
    · by_cases h2 : c = 47 ∨ c = 63 ∨ c = 35
      · have e : schemeGo pre (c :: s) = ([], false) := by simp [schemeGo, h1, h2]
        rw [e]
        have : (uFeed (uFirst w c).1 (uFirst w c).2 s).1 ≠ 5 := by
          rcases h2 with rfl | rfl | rfl
          · have e2 : uFirst w 47 = (2, []) := by simp [uFirst]
            rw [e2]; rcases uFeed_path s with h | h <;> rw [h] <;> simp
          · have e2 : uFirst w 63 = (3, []) := by simp [uFirst]
            rw [e2, uFeed_three]; simp
          · have e2 : uFirst w 35 = (3, []) := by simp [uFirst]
            rw [e2, uFeed_three]; simp
        simp [this]
      · have e : schemeGo pre (c :: s) = schemeGo (pre ++ [c]) s := by rw [schemeGo, if_neg h1, if_neg h2]
        rw [e] at hl ⊢
        have e1 : (uFirst w c).1 = 1 ∧ ((uFirst w c).2 = if w.length < 16 then w ++ [lowB c] else w) := by
          unfold uFirst
          rw [if_neg (by intro h; exact h2 (.inl h)), if_neg (by intro h; exact h2 (.inr h)), if_neg h1]
          split <;> simp
        rw [e1.1, e1.2]
        refine ih (pre ++ [c]) _ 1 (.inr rfl) ?_ ?_ hl
        · intro h
          simp at h
          have ew := hw (by omega)
          rw [if_pos (by rw [ew, low_length]; omega), ew]; simp [low]
        · intro h
          simp at h
          by_cases h17 : pre.length = 16
          · have ew := hw (by omega)
            rw [if_neg (by rw [ew, low_length]; omega), ew, low_length, h17]
          · rw [if_neg (by rw [hw2 (by omega)]; omega)]; exact hw2 (by omega)
theorem schemeGo_step (s : List UInt8) (k : Nat) (h : k < s.length) (h1 : s[k] ≠ 58) (h2 : ¬ (s[k] = 47 ∨ s[k] = 63 ∨ s[k] = 35)) : schemeGo (s.take (k + 1)) (s.drop (k + 1)) = schemeGo (s.take k) (s.drop k) := by
  rw [List.drop_eq_getElem_cons h, schemeGo, if_neg h1, if_neg h2, List.take_succ_eq_append_getElem h]

end Go.Proofs.Yteepmeejpkbkpaa
