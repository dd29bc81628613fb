/- Plain: where in a style (package cssscan), on lists of octets. No program in sight. -/
import Derived.Test.YtihgmgpcdodknaaPlain
import Derived.Lib.IndexLaws
set_option linter.unusedVariables false
namespace Go.Proofs.Ytihgmgpcdodknaa
open Go.RowKit

def isLetter (c : UInt8) : Bool := (97 ≤ c && c ≤ 122) || (65 ≤ c && c ≤ 90)
def isDigit (c : UInt8) : Bool := 48 ≤ c && c ≤ 57
def isWordy (c : UInt8) : Bool := isLetter c || isDigit c || c == 45 || c == 95
def isBlank (c : UInt8) : Bool := c == 32 || c == 9 || c == 10 || c == 12 || c == 13

def cCode (w : List UInt8) (c : UInt8) : Int × List UInt8 :=
  if isWordy c then (if w = [63] then (0, [63]) else if w.length < 16 then (0, w ++ [lowB c]) else (0, w))
  else if c = 40 then (if w = [117, 114, 108] then (8, []) else if w = [63] then (9, []) else (0, []))
  else if c = 92 then (9, []) else if c = 34 then (1, []) else if c = 39 then (2, []) else if c = 47 then (5, []) else (0, [])
def cQuoted (p : Int) (c : UInt8) : Int :=
  if (c = 34 ∧ p = 1) ∨ (c = 39 ∧ p = 2) then 0 else if c = 92 then p + 2 else if c = 10 ∨ c = 13 then 9 else p
def cRemark (p : Int) (c : UInt8) : Int × List UInt8 :=
  if p = 5 then (if c = 42 then (6, []) else cCode [] c) else if c = 42 then (7, []) else if p = 7 ∧ c = 47 then (0, []) else (6, [])
def cStep (p : Int) (w : List UInt8) (c : UInt8) : Int × List UInt8 :=
  if p = 0 then cCode w c else if p = 1 ∨ p = 2 then (cQuoted p c, []) else if p = 3 ∨ p = 4 then (p - 2, []) else
  if p = 5 ∨ p = 6 ∨ p = 7 then cRemark p c else if p = 8 then (if c = 41 then (0, []) else (8, [])) else (9, [])
def cFeed (p : Int) (w : List UInt8) (s : List UInt8) : Int × List UInt8 := s.foldl (fun x c => cStep x.1 x.2 c) (p, w)

theorem cFeed_append (p : Int) (w a b : List UInt8) : cFeed p w (a ++ b) = cFeed (cFeed p w a).1 (cFeed p w a).2 b := by
  simp [cFeed]
theorem cFeed_cons (p : Int) (w : List UInt8) (c : UInt8) (s : List UInt8) : cFeed p w (c :: s) = cFeed (cStep p w c).1 (cStep p w c).2 s := by simp [cFeed]
theorem cFeed_take (p : Int) (w s : List UInt8) (k : Nat) (h : k < s.length) :
    cFeed p w (s.take (k + 1)) = cStep (cFeed p w (s.take k)).1 (cFeed p w (s.take k)).2 s[k] := by
  rw [List.take_succ_eq_append_getElem h, cFeed_append]; simp [cFeed]
theorem cFeed_alive : (cFeed 0 [] [97, 58, 32, 34]).1 = 1 := by decide
theorem cFeed_nine (s : List UInt8) (w : List UInt8) : (cFeed 9 w s).1 = 9 := by
  induction s generalizing w with
  | nil => rfl
  | cons c s ih =>
    have e : cFeed 9 w (c :: s) = cFeed 9 [] s := by simp [cFeed, cStep]
    rw [e, ih]
theorem cFeed_eight (s : List UInt8) (h : (41 : UInt8) ∉ s) : cFeed 8 [] s = (8, []) := by
  induction s with
  | nil => rfl
  | cons c s ih =>
    have h1 : c ≠ 41 := fun e => h (by simp [e])
    have e : cFeed 8 [] (c :: s) = cFeed 8 [] s := by simp [cFeed, cStep, h1]
    rw [e, ih (fun m => h (by simp [m]))]
theorem cFeed_url (s : List UInt8) (h : (41 : UInt8) ∉ s) : (cFeed 0 [] ([97, 58, 32, 117, 82, 108, 40] ++ s)).1 = 8 ∧ (cFeed 0 [] ([97, 58, 32, 85, 82, 76, 40] ++ s ++ [41])).1 = 0 := by
  have e1 : cFeed 0 [] [97, 58, 32, 117, 82, 108, 40] = (8, []) := by decide
  have e2 : cFeed 0 [] [97, 58, 32, 85, 82, 76, 40] = (8, []) := by decide
  rw [cFeed_append, e1, cFeed_append, cFeed_append, e2, cFeed_eight s h]
  exact ⟨rfl, by decide⟩

/-- octets of styles' plain texts -/
def okCss (c : UInt8) : Bool := isLetter c || isDigit c || c == 32 || c == 46 || c == 44 || c == 37 || c == 35 || c == 43 || c == 45
theorem okCss_code (w : List UInt8) (c : UInt8) (h : okCss c = true) : (cCode w c).1 = 0 := by
  have h40 : c ≠ 40 := by rintro rfl; revert h; decide
  have h92 : c ≠ 92 := by rintro rfl; revert h; decide
  have h34 : c ≠ 34 := by rintro rfl; revert h; decide
  have h39 : c ≠ 39 := by rintro rfl; revert h; decide
  have h47 : c ≠ 47 := by rintro rfl; revert h; decide
  unfold cCode
  rw [if_neg h40, if_neg h92, if_neg h34, if_neg h39, if_neg h47]
  repeat' split
  all_goals rfl
theorem cFeed_plain (s : List UInt8) : ∀ (w : List UInt8), (∀ c ∈ s, okCss c = true) → (cFeed 0 w s).1 = 0 := by
  induction s with
  | nil => intro w _; rfl
  | cons c s ih =>
    intro w h
    rw [cFeed_cons]
    have e : (cStep 0 w c).1 = 0 := by simp [cStep]; exact okCss_code w c (h c (by simp))
    rw [e]
    exact ih _ (fun d hd => h d (by simp [hd]))
theorem cFeed_marker (w : List UInt8) : (cFeed 0 w [90, 103, 111, 116, 109, 112, 108, 90]).1 = 0 := cFeed_plain _ w (by decide)

def sExpr : List UInt8 := [101, 120, 112, 114, 101, 115, 115, 105, 111, 110]
def sUrl : List UInt8 := [117, 114, 108]
def sMark : List UInt8 := [90, 103, 111, 116, 109, 112, 108, 90]
def sMore : List UInt8 := [32, 46, 44, 37, 35, 43, 45]
theorem okCss_eq (c : UInt8) : okCss c = (isLetter c || isDigit c || hasB sMore c) := by
  have : ∀ k : Fin 256, okCss (UInt8.ofNat k.val) = (isLetter (UInt8.ofNat k.val) || isDigit (UInt8.ofNat k.val) || hasB sMore (UInt8.ofNat k.val)) := by decide +kernel
  have h := this ⟨c.toNat, c.toNat_lt⟩
  simpa using h
/-- may a text stand in a style? -/
def styledL (l : List UInt8) : Bool := (low l).all okCss && (decide (l.length ≤ 4096) && decide (Lib.index (low l) sExpr < 0) && decide (Lib.index (low l) sUrl < 0))
def styleL (l : List UInt8) : List UInt8 := if styledL l then l else sMark
theorem styledL_mark : styledL sMark = true := by decide
theorem okCss_low (c : UInt8) : okCss (lowB c) = okCss c := by
  have : ∀ k : Fin 256, okCss (lowB (UInt8.ofNat k.val)) = okCss (UInt8.ofNat k.val) := by decide +kernel
  have h := this ⟨c.toNat, c.toNat_lt⟩
  simpa using h
theorem styledL_ok {l : List UInt8} (h : styledL l = true) : ∀ c ∈ l, okCss c = true := by
  intro c hc
  simp only [styledL, Bool.and_eq_true, List.all_eq_true] at h
  have := h.1 (lowB c) (List.mem_map.2 ⟨c, hc, rfl⟩)
  rwa [okCss_low] at this
theorem cFeed_style (w l : List UInt8) : (cFeed 0 w (styleL l)).1 = 0 := by
  unfold styleL
  split
  · rename_i h; exact cFeed_plain _ w (styledL_ok h)
  · exact cFeed_plain _ w (by decide)

end Go.Proofs.Ytihgmgpcdodknaa
