import Derived.Test.YtihgmgpcdodknaaTokQ
set_option linter.unusedVariables false
/- Plain: the reference's reader (muslinref12.Tokens), a machine of states, on lists of octets; that it answers toks. No program in sight. -/
namespace Go.Proofs.Ytihgmgpcdodknaa
open Go.RowKit

/-- the machine: state, what was gathered, the tag and the attribute on their way, the quote, the raw element and its kind, the tokens -/
structure Mc where
  st : Nat
  text : List UInt8
  tag : Tk
  a : Att
  quote : UInt8
  raw : List UInt8
  kind : Int
  out : List Tk
def tk0 : Tk := ⟨0, [], [], [], false⟩
def mc0 : Mc := ⟨0, [], tk0, ([], []), 0, [], 0, []⟩
def mText (m : Mc) (d : Bool) : Mc := { m with out := if (if d then decL m.text else m.text) = [] then m.out else m.out ++ [⟨3, [], if d then decL m.text else m.text, [], false⟩], text := [] }
def mPut (m : Mc) : Mc := { m with tag := { m.tag with ats := m.tag.ats ++ [(m.a.1, decL m.a.2)] }, a := ([], []) }
def mTok (t : Tk) : Tk := if t.k = 2 then { t with ats := [], c := false } else t
def mEnd (m : Mc) : Mc :=
  if (mTok m.tag).k = 1 ∧ 1 ≤ elemK (mTok m.tag).n ∧ elemK (mTok m.tag).n ≤ 3 then { m with st := 15, out := m.out ++ [mTok m.tag], tag := tk0, raw := (mTok m.tag).n, kind := elemK (mTok m.tag).n }
  else { m with st := 0, out := m.out ++ [mTok m.tag], tag := tk0 }
/-- within a tag; true: the octet is asked anew -/
def mTag (m : Mc) (c : UInt8) : Mc × Bool :=
  match m.st with
  | 3 => if isBlank c then ({ m with st := 4 }, false) else if c = 47 then ({ m with st := 11 }, false) else if c = 62 then (mEnd m, false) else ({ m with tag := { m.tag with n := m.tag.n ++ [lowB c] } }, false)
  | 4 => if isBlank c then (m, false) else if c = 47 then ({ m with st := 11 }, false) else if c = 62 then (mEnd m, false) else ({ m with st := 5, a := ([lowB c], []) }, false)
  | 5 => if isBlank c then ({ m with st := 6 }, false) else if c = 61 then ({ m with st := 7 }, false) else if c = 47 then ({ mPut m with st := 11 }, false) else if c = 62 then (mEnd (mPut m), false) else ({ m with a := (m.a.1 ++ [lowB c], m.a.2) }, false)
  | 6 => if isBlank c then ({ m with st := 6 }, false) else if c = 61 then ({ m with st := 7 }, false) else if c = 47 then ({ mPut m with st := 11 }, false) else if c = 62 then (mEnd (mPut m), false) else ({ mPut m with st := 4 }, true)
  | 10 => ({ m with st := 4 }, true)
  | 11 => if c = 62 then (mEnd { m with tag := { m.tag with c := true } }, false) else ({ m with st := 4 }, true)
  | _ => (m, false)
def mVal (m : Mc) (c : UInt8) : Mc × Bool :=
  match m.st with
  | 7 => if isBlank c then (m, false) else if c = 34 ∨ c = 39 then ({ m with st := 8, quote := c }, false) else if c = 62 then (mEnd (mPut m), false) else ({ m with st := 9 }, true)
  | 8 => if c = m.quote then ({ mPut m with st := 10 }, false) else ({ m with a := (m.a.1, m.a.2 ++ [c]) }, false)
  | 9 => if isBlank c ∨ c = 62 then ({ mPut m with st := 4 }, true) else ({ m with a := (m.a.1, m.a.2 ++ [c]) }, false)
  | _ => (m, false)
def dataOpen : List UInt8 → Bool
  | d :: r => isLetter d || d == 33 || d == 63 || (d == 47 && !r.isEmpty)
  | [] => false
/-- outside of tags: how many octets were read -/
def mOut (m : Mc) (c : UInt8) (r : List UInt8) : Mc × Nat :=
  match m.st with
  | 0 => if c = 60 ∧ dataOpen r = true then ({ mText m true with st := 1 }, 1) else ({ m with text := m.text ++ [c] }, 1)
  | 1 => if c = 47 then ({ m with st := 2 }, 1) else if c = 33 then ({ m with st := 12 }, 1) else if c = 63 then ({ m with st := 13 }, 1) else ({ m with st := 3, tag := { tk0 with k := 1 } }, 0)
  | 2 => if isLetter c then ({ m with st := 3, tag := { tk0 with k := 2 } }, 0) else if c = 62 then ({ m with st := 0 }, 1) else ({ m with st := 13 }, 0)
  | 12 => if [45, 45].isPrefixOf (c :: r) then ({ m with st := 14 }, 2) else ({ m with st := 13 }, 0)
  | 13 => if c = 62 then ({ m with st := 0 }, 1) else (m, 1)
  | 14 => if [45, 45, 62].isPrefixOf (c :: r) then ({ m with out := m.out ++ [⟨4, [], m.text, [], false⟩], text := [], st := 0 }, 3) else ({ m with text := m.text ++ [c] }, 1)
  | 15 => if endsB m.raw (c :: r) = true then ({ mText m (m.kind == 1) with st := 3, tag := { tk0 with k := 2, n := low (((c :: r).drop 2).take m.raw.length) } }, m.raw.length + 2) else ({ m with text := m.text ++ [c] }, 1)
  | _ => (m, 1)
def inTag (s : Nat) : Bool := (decide (3 ≤ s) && decide (s ≤ 6)) || s == 10 || s == 11
def inVal (s : Nat) : Bool := s == 7 || s == 8 || s == 9
def mStep (m : Mc) (c : UInt8) (r : List UInt8) : Mc × List UInt8 :=
  if inTag m.st then ((mTag m c).1, if (mTag m c).2 then c :: r else r)
  else if inVal m.st then ((mVal m c).1, if (mVal m c).2 then c :: r else r)
  else ((mOut m c r).1, (c :: r).drop (mOut m c r).2)
def mFin (m : Mc) : Mc := if m.st = 0 then mText m true else if m.st = 15 then mText m (m.kind == 1) else if m.st = 14 then { m with out := m.out ++ [⟨4, [], m.text, [], false⟩] } else m
def mRun : Nat → Mc → List UInt8 → Mc
  | 0, m, _ => m
  | _, m, [] => mFin m
  | f + 1, m, c :: r => mRun f (mStep m c r).1 (mStep m c r).2
def refT (s : List UInt8) : List Tk × Int :=
  if 65536 < s.length then ([], 5) else if 4096 < (mRun (3 * s.length + 1) mc0 s).out.length then ([], 3) else ((mRun (3 * s.length + 1) mc0 s).out, 0)
-- <p a=b c="d" e/>x<!--y--><title>&lt;</p></TITLE ><!z></q r>
theorem refT_try1 : refT [60, 112, 32, 97, 61, 98, 32, 99, 61, 34, 100, 34, 32, 101, 47, 62, 120, 60, 33, 45, 45, 121, 45, 45, 62] = toks [60, 112, 32, 97, 61, 98, 32, 99, 61, 34, 100, 34, 32, 101, 47, 62, 120, 60, 33, 45, 45, 121, 45, 45, 62] := by kernel_rfl
theorem refT_try2 : refT ([60] ++ sTitle ++ [62, 38, 108, 116, 59, 60, 47, 112, 62, 60, 47] ++ sTitle ++ [32, 62, 60, 33, 122, 62, 60, 47, 113, 32, 114, 62, 60]) = toks ([60] ++ sTitle ++ [62, 38, 108, 116, 59, 60, 47, 112, 62, 60, 47] ++ sTitle ++ [32, 62, 60, 33, 122, 62, 60, 47, 113, 32, 114, 62, 60]) := by kernel_rfl
end Go.Proofs.Ytihgmgpcdodknaa
/- Plain: the machine's run without fuel; its way through a tag. -/
namespace Go.Proofs.Ytihgmgpcdodknaa
open Go.RowKit

/-- steps without an octet that may follow -/
def wSt : Nat → Nat
  | 7 => 2
  | 9 => 1
  | 6 => 1
  | 10 => 1
  | 11 => 1
  | 1 => 1
  | 2 => 1
  | 12 => 1
  | _ => 0
theorem wSt_le (s : Nat) : wSt s ≤ 2 := by unfold wSt; split <;> omega
theorem mEnd_st (m : Mc) : wSt (mEnd m).st = 0 := by unfold mEnd; split <;> rfl
theorem mTag_w (m : Mc) (c : UInt8) (h : (mTag m c).2 = true) : wSt (mTag m c).1.st < wSt m.st := by
  obtain ⟨st, text, tag, a, q, raw, kind, out⟩ := m
  unfold mTag at h ⊢
  simp only at h ⊢
  split at h <;> (try (split at h <;> (try (cases h))))
  all_goals (try (split at h <;> (try (cases h))))
  all_goals (try (split at h <;> (try (cases h))))
  all_goals (try (split at h <;> (try (cases h))))
  all_goals simp_all [wSt, mPut]
theorem mVal_w (m : Mc) (c : UInt8) (h : (mVal m c).2 = true) : wSt (mVal m c).1.st < wSt m.st := by
  obtain ⟨st, text, tag, a, q, raw, kind, out⟩ := m
  unfold mVal at h ⊢
  simp only at h ⊢
  split at h <;> (try (split at h <;> (try (cases h))))
  all_goals (try (split at h <;> (try (cases h))))
  all_goals (try (split at h <;> (try (cases h))))
  all_goals simp_all [wSt, mPut]
theorem mOut_w (m : Mc) (c : UInt8) (r : List UInt8) (h : (mOut m c r).2 = 0) : wSt (mOut m c r).1.st < wSt m.st := by
  by_cases h12 : m.st = 12
  · by_cases hp : [45, 45].isPrefixOf (c :: r) = true
    · have e : (mOut m c r).2 = 2 := by
        unfold mOut
        simp only [h12]
        rw [if_pos hp]
      omega
    · have e : (mOut m c r).1 = { m with st := 13 } := by
        unfold mOut
        simp only [h12]
        rw [if_neg hp]
      rw [e, h12]
      show (0 : Nat) < 1
      omega
  · obtain ⟨st, text, tag, a, q, raw, kind, out⟩ := m
    unfold mOut at h ⊢
    simp only at h h12 ⊢
    split at h <;> (try (split at h <;> (try (cases h))))
    all_goals (try (split at h <;> (try (cases h))))
    all_goals (try (split at h <;> (try (cases h))))
    all_goals simp_all [wSt]
theorem mStep_lt (m : Mc) (c : UInt8) (r : List UInt8) : 3 * (mStep m c r).2.length + wSt (mStep m c r).1.st < 3 * (c :: r).length + wSt m.st := by
  have hle := wSt_le (mStep m c r).1.st
  unfold mStep at hle ⊢
  by_cases h1 : inTag m.st = true
  · rw [if_pos h1] at hle ⊢
    by_cases h2 : (mTag m c).2 = true
    · have := mTag_w m c h2
      simp only [h2, if_true] at hle ⊢; omega
    · simp only [h2, Bool.false_eq_true, if_false, List.length_cons] at hle ⊢; omega
  · rw [if_neg h1] at hle ⊢
    by_cases h3 : inVal m.st = true
    · rw [if_pos h3] at hle ⊢
      by_cases h2 : (mVal m c).2 = true
      · have := mVal_w m c h2
        simp only [h2, if_true] at hle ⊢; omega
      · simp only [h2, Bool.false_eq_true, if_false, List.length_cons] at hle ⊢; omega
    · rw [if_neg h3] at hle ⊢
      simp only [List.length_drop, List.length_cons] at hle ⊢
      by_cases h2 : (mOut m c r).2 = 0
      · have := mOut_w m c r h2
        omega
      · omega
theorem mRun_more : ∀ (f g : Nat) (m : Mc) (l : List UInt8), 3 * l.length + wSt m.st < f → 3 * l.length + wSt m.st < g → mRun f m l = mRun g m l := by
  intro f
  induction f with
  | zero => intro g m l h; omega
  | succ f ih =>
    intro g m l h1 h2
    cases g with
    | zero => omega
    | succ g =>
      cases l with
      | nil => rfl
      | cons c r =>
        have := mStep_lt m c r
        exact ih g _ _ (by omega) (by omega)
/-- the machine's end from here on -/
def mGo (m : Mc) (l : List UInt8) : Mc := mRun (3 * l.length + wSt m.st + 1) m l
theorem mGo_nil (m : Mc) : mGo m [] = mFin m := rfl
theorem mGo_cons (m : Mc) (c : UInt8) (r : List UInt8) : mGo m (c :: r) = mGo (mStep m c r).1 (mStep m c r).2 := by
  have := mStep_lt m c r
  have e : mGo m (c :: r) = mRun (3 * (c :: r).length + wSt m.st) (mStep m c r).1 (mStep m c r).2 := rfl
  rw [e]
  exact mRun_more _ _ _ _ (by omega) (by omega)
theorem refT_go (s : List UInt8) : refT s = if 65536 < s.length then ([], 5) else if 4096 < (mGo mc0 s).out.length then ([], 3) else ((mGo mc0 s).out, 0) := by
  have : mRun (3 * s.length + 1) mc0 s = mGo mc0 s := mRun_more _ _ _ _ (by show 3 * s.length + 0 < _; omega) (by show 3 * s.length + 0 < 3 * s.length + 0 + 1; omega)
  unfold refT
  rw [this]

/-! ### Through a tag -/
/-- where the machine stands, for where the plain law stands -/
def stOf : Sta → Nat
  | .bef => 4
  | .nam _ => 5
  | .aft _ => 6
  | .wan _ => 7
  | .sla => 11
def nmOf : Sta → Option (List UInt8)
  | .nam n => some n
  | .aft n => some n
  | .wan n => some n
  | _ => none
theorem go_tag (m : Mc) (c : UInt8) (r : List UInt8) (h : inTag m.st = true) : mGo m (c :: r) = mGo (mTag m c).1 (if (mTag m c).2 then c :: r else r) := by
  rw [mGo_cons, mStep, if_pos h]
theorem go_val (m : Mc) (c : UInt8) (r : List UInt8) (h : inTag m.st = false) (h2 : inVal m.st = true) : mGo m (c :: r) = mGo (mVal m c).1 (if (mVal m c).2 then c :: r else r) := by
  rw [mGo_cons, mStep, h, if_neg (by decide), if_pos h2]
theorem go_out (m : Mc) (c : UInt8) (r : List UInt8) (h : inTag m.st = false) (h2 : inVal m.st = false) : mGo m (c :: r) = mGo (mOut m c r).1 ((c :: r).drop (mOut m c r).2) := by
  rw [mGo_cons, mStep, h, if_neg (by decide), h2, if_neg (by decide)]
/-- a value in quotes -/
theorem go_quoted : ∀ (r : List UInt8) (m : Mc), m.st = 8 → mGo m r = if Lib.indexByte r m.quote < 0 then mGo { m with a := (m.a.1, m.a.2 ++ r) } [] else mGo { mPut { m with a := (m.a.1, m.a.2 ++ r.take (Lib.indexByte r m.quote).toNat) } with st := 10 } (r.drop ((Lib.indexByte r m.quote).toNat + 1))
  | [], m, h => by
    rw [if_pos (show Lib.indexByte [] m.quote < 0 from by show (-1 : Int) < 0; decide)]
    simp
  | c :: r, m, h => by
    have ht : inTag m.st = false := by rw [h]; rfl
    have hv : inVal m.st = true := by rw [h]; rfl
    rw [go_val m c r ht hv]
    by_cases hc : c = m.quote
    · have e : mVal m c = ({ mPut m with st := 10 }, false) := by unfold mVal; simp only [h]; rw [if_pos hc]
      have ei : Lib.indexByte (c :: r) m.quote = 0 := by rw [Lib.indexByte]; simp [hc]
      rw [e, ei]
      simp only [Bool.false_eq_true, if_false]
      rw [if_neg (by decide)]
      simp
    · have e : mVal m c = ({ m with a := (m.a.1, m.a.2 ++ [c]) }, false) := by unfold mVal; simp only [h]; rw [if_neg hc]
      have hcb : (c == m.quote) = false := by simpa using hc
      have ih := go_quoted r { m with a := (m.a.1, m.a.2 ++ [c]) } h
      rw [e]
      simp only [Bool.false_eq_true, if_false]
      rw [ih]
      have hg := Lib.indexByte_ge r m.quote
      by_cases hn : Lib.indexByte r m.quote < 0
      · have e1 : Lib.indexByte r m.quote = -1 := by omega
        have ei : Lib.indexByte (c :: r) m.quote = -1 := by rw [Lib.indexByte, e1]; simp [hcb]
        rw [ei, e1]
        simp
      · obtain ⟨j, hj⟩ : ∃ j : Nat, Lib.indexByte r m.quote = (j : Int) := ⟨(Lib.indexByte r m.quote).toNat, by omega⟩
        have ei : Lib.indexByte (c :: r) m.quote = ((j + 1 : Nat) : Int) := by
          rw [Lib.indexByte, hj, hcb]
          have : ((j : Int) == -1) = false := by rw [beq_eq_false_iff_ne]; omega
          simp [this]
        simp only [ei, hj, Int.toNat_natCast]
        rw [if_neg (by omega), if_neg (by omega)]
        simp
/-- a value without quotes -/
theorem go_bare : ∀ (r : List UInt8) (m : Mc), m.st = 9 → mGo m r = if r.dropWhile bareC = [] then mGo { m with a := (m.a.1, m.a.2 ++ r) } [] else mGo { mPut { m with a := (m.a.1, m.a.2 ++ r.takeWhile bareC) } with st := 4 } (r.dropWhile bareC)
  | [], m, h => by simp
  | c :: r, m, h => by
    have ht : inTag m.st = false := by rw [h]; rfl
    have hv : inVal m.st = true := by rw [h]; rfl
    rw [go_val m c r ht hv]
    by_cases hc : bareC c = true
    · have hcc : ¬ (isBlank c = true ∨ c = 62) := by
        unfold bareC at hc
        intro h2
        rcases h2 with h2 | h2
        · rw [h2] at hc; cases hc
        · subst h2; revert hc; decide
      have e : mVal m c = ({ m with a := (m.a.1, m.a.2 ++ [c]) }, false) := by unfold mVal; simp only [h]; rw [if_neg hcc]
      have ih := go_bare r { m with a := (m.a.1, m.a.2 ++ [c]) } h
      rw [e]
      simp only [Bool.false_eq_true, if_false]
      rw [ih]
      simp [hc]
    · have hcc : isBlank c = true ∨ c = 62 := by
        unfold bareC at hc
        by_cases hb : isBlank c = true
        · exact .inl hb
        · right
          have hb' : isBlank c = false := by simpa using hb
          rw [hb'] at hc
          simpa using hc
      have e : mVal m c = ({ mPut m with st := 4 }, true) := by unfold mVal; simp only [h]; rw [if_pos hcc]
      rw [e]
      simp [hc]
end Go.Proofs.Ytihgmgpcdodknaa
/- Plain: the machine's way through a tag's attributes is the plain law's. -/
namespace Go.Proofs.Ytihgmgpcdodknaa
open Go.RowKit

/-- the tokens at the machine's end -/
def oE (m : Mc) (l : List UInt8) : List Tk := (mGo m l).out
def mkT (b : Mc) (st : Nat) (a : Att) (q : UInt8) (ats : List Att) : Mc := { b with st := st, a := a, quote := q, tag := { b.tag with ats := ats, c := false } }
def endT (b : Mc) (a : Att) (q : UInt8) (ats : List Att) (cl : Bool) : Mc := mEnd { b with a := a, quote := q, tag := { b.tag with ats := ats, c := cl } }
theorem oE_nil (b : Mc) (st : Nat) (a : Att) (q : UInt8) (ats : List Att) (h : st = 4 ∨ st = 5 ∨ st = 6 ∨ st = 7 ∨ st = 8 ∨ st = 9 ∨ st = 10 ∨ st = 11) : oE (mkT b st a q ats) [] = b.out := by
  unfold oE
  rw [mGo_nil]
  rcases h with rfl | rfl | rfl | rfl | rfl | rfl | rfl | rfl <;> rfl
theorem oE_tag {m m' : Mc} {c : UInt8} {r : List UInt8} {g : Bool} (h : inTag m.st = true) (e : mTag m c = (m', g)) : oE m (c :: r) = oE m' (if g then c :: r else r) := by
  unfold oE; rw [go_tag m c r h, e]
theorem oE_val {m m' : Mc} {c : UInt8} {r : List UInt8} {g : Bool} (h : inTag m.st = false) (h2 : inVal m.st = true) (e : mVal m c = (m', g)) : oE m (c :: r) = oE m' (if g then c :: r else r) := by
  unfold oE; rw [go_val m c r h h2, e]
theorem oE_ten (b : Mc) (a : Att) (q : UInt8) (ats : List Att) (l : List UInt8) : oE (mkT b 10 a q ats) l = oE (mkT b 4 a q ats) l := by
  cases l with
  | nil => rw [oE_nil b 10 a q ats (by simp), oE_nil b 4 a q ats (by simp)]
  | cons c r => exact oE_tag (g := true) rfl rfl
theorem at_run (b : Mc) : ∀ (M : Nat) (σ : Sta) (l : List UInt8) (ats : List Att) (a : Att) (q : UInt8), wtS σ l ≤ M → (∀ n, nmOf σ = some n → a = (n, [])) →
    (atT σ l ats = none → oE (mkT b (stOf σ) a q ats) l = b.out) ∧ (∀ ats' cl r, atT σ l ats = some (ats', cl, r) → ∃ a' q', oE (mkT b (stOf σ) a q ats) l = oE (endT b a' q' ats' cl) r) := by
  intro M
  induction M with
  | zero =>
    intro σ l ats a q hM ha
    have hl : l = [] := by cases l with
      | nil => rfl
      | cons c r => cases σ <;> simp [wtS] at hM
    subst hl
    have hn : atT σ [] ats = none := atT_fail (by cases σ <;> rfl)
    refine ⟨fun _ => oE_nil b _ a q ats (by cases σ <;> simp [stOf]), fun ats' cl r h => by rw [hn] at h; cases h⟩
  | succ M ih =>
    intro σ l ats a q hM ha
    cases l with
    | nil =>
      have hn : atT σ [] ats = none := atT_fail (by cases σ <;> rfl)
      exact ⟨fun _ => oE_nil b _ a q ats (by cases σ <;> simp [stOf]), fun ats' cl r h => by rw [hn] at h; cases h⟩
    | cons c r =>
      -- the step: where the plain law goes, the machine's end is the same
      have key : ∀ σ' l' ats1, atStep σ (c :: r) ats = .go σ' l' ats1 → ∀ a1 q1, (∀ n, nmOf σ' = some n → a1 = (n, [])) → oE (mkT b (stOf σ) a q ats) (c :: r) = oE (mkT b (stOf σ') a1 q1 ats1) l' →
          (atT σ (c :: r) ats = none → oE (mkT b (stOf σ) a q ats) (c :: r) = b.out) ∧ (∀ ats' cl r', atT σ (c :: r) ats = some (ats', cl, r') → ∃ a' q', oE (mkT b (stOf σ) a q ats) (c :: r) = oE (endT b a' q' ats' cl) r') := by
        intro σ' l' ats1 hs a1 q1 ha1 he
        have hlt := atStep_lt _ _ _ _ _ _ hs
        have h := ih σ' l' ats1 a1 q1 (by omega) ha1
        rw [atT_go hs, he]
        exact h
      cases σ with
      | bef =>
        by_cases hb : isBlank c = true
        · exact key .bef r ats (by simp [atStep, hb]) a q (fun n h => by cases h) (oE_tag (g := false) rfl (by simp [mTag, mkT, stOf, hb]))
        · by_cases h47 : c = 47
          · subst h47
            exact key .sla r ats rfl a q (fun n h => by cases h) (oE_tag (g := false) rfl rfl)
          · by_cases h62 : c = 62
            · subst h62
              have hd : atT .bef (62 :: r) ats = some (ats, false, r) := atT_done rfl
              refine ⟨(fun h => by rw [hd] at h; cases h), fun ats' cl r' h => ?_⟩
              rw [hd] at h
              cases h
              exact ⟨a, q, oE_tag (g := false) rfl rfl⟩
            · exact key (.nam [lowB c]) r ats (by simp [atStep, hb, h47, h62]) ([lowB c], []) q (fun n h => by cases h; rfl) (oE_tag (g := false) rfl (by simp [mTag, mkT, stOf, hb, h47, h62]))
      | nam n =>
        obtain rfl := ha n rfl
        by_cases hb : isBlank c = true
        · exact key (.aft n) r ats (by simp [atStep, hb]) (n, []) q (fun n' h => by cases h; rfl) (oE_tag (g := false) rfl (by simp [mTag, mkT, stOf, hb]))
        · by_cases h61 : c = 61
          · subst h61
            exact key (.wan n) r ats rfl (n, []) q (fun n' h => by cases h; rfl) (oE_tag (g := false) rfl rfl)
          · by_cases h47 : c = 47
            · subst h47
              refine key .bef (47 :: r) (ats ++ [(n, [])]) rfl ([], []) q (fun n' h => by cases h) ?_
              rw [oE_tag (m := mkT b (stOf (.nam n)) (n, []) q ats) (m' := mkT b 11 ([], []) q (ats ++ [(n, [])])) (g := false) rfl rfl]
              exact (oE_tag (m := mkT b 4 ([], []) q (ats ++ [(n, [])])) (m' := mkT b 11 ([], []) q (ats ++ [(n, [])])) (g := false) rfl rfl).symm
            · by_cases h62 : c = 62
              · subst h62
                refine key .bef (62 :: r) (ats ++ [(n, [])]) rfl ([], []) q (fun n' h => by cases h) ?_
                rw [oE_tag (m := mkT b (stOf (.nam n)) (n, []) q ats) (m' := endT b ([], []) q (ats ++ [(n, [])]) false) (g := false) rfl rfl]
                exact (oE_tag (m := mkT b 4 ([], []) q (ats ++ [(n, [])])) (m' := endT b ([], []) q (ats ++ [(n, [])]) false) (g := false) rfl rfl).symm
              · exact key (.nam (n ++ [lowB c])) r ats (by simp [atStep, hb, h61, h47, h62]) (n ++ [lowB c], []) q (fun n' h => by cases h; rfl) (oE_tag (g := false) rfl (by simp [mTag, mkT, stOf, hb, h61, h47, h62]))
      | aft n =>
        obtain rfl := ha n rfl
        by_cases hb : isBlank c = true
        · exact key (.aft n) r ats (by simp [atStep, hb]) (n, []) q (fun n' h => by cases h; rfl) (oE_tag (g := false) rfl (by simp [mTag, mkT, stOf, hb]))
        · by_cases h61 : c = 61
          · subst h61
            exact key (.wan n) r ats rfl (n, []) q (fun n' h => by cases h; rfl) (oE_tag (g := false) rfl rfl)
          · refine key .bef (c :: r) (ats ++ [(n, [])]) (by simp [atStep, hb, h61]) ([], []) q (fun n' h => by cases h) ?_
            by_cases h47 : c = 47
            · subst h47
              rw [oE_tag (m := mkT b (stOf (.aft n)) (n, []) q ats) (m' := mkT b 11 ([], []) q (ats ++ [(n, [])])) (g := false) rfl rfl]
              exact (oE_tag (m := mkT b 4 ([], []) q (ats ++ [(n, [])])) (m' := mkT b 11 ([], []) q (ats ++ [(n, [])])) (g := false) rfl rfl).symm
            · by_cases h62 : c = 62
              · subst h62
                rw [oE_tag (m := mkT b (stOf (.aft n)) (n, []) q ats) (m' := endT b ([], []) q (ats ++ [(n, [])]) false) (g := false) rfl rfl]
                exact (oE_tag (m := mkT b 4 ([], []) q (ats ++ [(n, [])])) (m' := endT b ([], []) q (ats ++ [(n, [])]) false) (g := false) rfl rfl).symm
              · exact oE_tag (g := true) rfl (by simp [mTag, mkT, mPut, stOf, hb, h61, h47, h62]; rfl)
      | wan n =>
        obtain rfl := ha n rfl
        by_cases hb : isBlank c = true
        · exact key (.wan n) r ats (by simp [atStep, hb]) (n, []) q (fun n' h => by cases h; rfl) (oE_val (g := false) rfl rfl (by simp [mVal, mkT, stOf, hb]))
        · by_cases h62 : c = 62
          · subst h62
            refine key .bef (62 :: r) (ats ++ [(n, [])]) rfl ([], []) q (fun n' h => by cases h) ?_
            rw [oE_val (m := mkT b (stOf (.wan n)) (n, []) q ats) (m' := endT b ([], []) q (ats ++ [(n, [])]) false) (g := false) rfl rfl rfl]
            exact (oE_tag (m := mkT b 4 ([], []) q (ats ++ [(n, [])])) (m' := endT b ([], []) q (ats ++ [(n, [])]) false) (g := false) rfl rfl).symm
          · by_cases hq : c = 34 ∨ c = 39
            · have e8 : oE (mkT b (stOf (.wan n)) (n, []) q ats) (c :: r) = oE (mkT b 8 (n, []) c ats) r := oE_val (g := false) rfl rfl (by simp [mVal, mkT, stOf, hb, hq])
              have gq := go_quoted r (mkT b 8 (n, []) c ats) rfl
              have hqc : (mkT b 8 (n, []) c ats).quote = c := rfl
              rw [hqc] at gq
              by_cases hi : Lib.indexByte r c < 0
              · have hn : atT (.wan n) (c :: r) ats = none := atT_fail (by simp only [atStep]; rw [if_neg hb, if_neg h62, if_pos hq, if_pos hi])
                refine ⟨fun _ => ?_, fun ats' cl r' h => by rw [hn] at h; cases h⟩
                rw [e8]
                unfold oE
                rw [gq, if_pos hi]
                rfl
              · refine key .bef (r.drop ((Lib.indexByte r c).toNat + 1)) (ats ++ [(n, decL (r.take (Lib.indexByte r c).toNat))]) (by simp only [atStep]; rw [if_neg hb, if_neg h62, if_pos hq, if_neg hi]) ([], []) c (fun n' h => by cases h) ?_
                rw [e8]
                unfold oE
                rw [gq, if_neg hi]
                exact oE_ten b ([], []) c (ats ++ [(n, decL (r.take (Lib.indexByte r c).toNat))]) _
            · have e9 : oE (mkT b (stOf (.wan n)) (n, []) q ats) (c :: r) = oE (mkT b 9 (n, []) q ats) (c :: r) := oE_val (g := true) rfl rfl (by simp [mVal, mkT, stOf, hb, hq, h62])
              have gb := go_bare (c :: r) (mkT b 9 (n, []) q ats) rfl
              by_cases hd : (c :: r).dropWhile bareC = []
              · have hn : atT (.wan n) (c :: r) ats = none := atT_fail (by simp only [atStep]; rw [if_neg hb, if_neg h62, if_neg hq, if_pos hd])
                refine ⟨fun _ => ?_, fun ats' cl r' h => by rw [hn] at h; cases h⟩
                rw [e9]
                unfold oE
                rw [gb, if_pos hd]
                rfl
              · refine key .bef ((c :: r).dropWhile bareC) (ats ++ [(n, decL ((c :: r).takeWhile bareC))]) (by simp only [atStep]; rw [if_neg hb, if_neg h62, if_neg hq, if_neg hd]) ([], []) q (fun n' h => by cases h) ?_
                rw [e9]
                unfold oE
                rw [gb, if_neg hd]
                rfl
      | sla =>
        by_cases h62 : c = 62
        · subst h62
          have hd : atT .sla (62 :: r) ats = some (ats, true, r) := atT_done rfl
          refine ⟨(fun h => by rw [hd] at h; cases h), fun ats' cl r' h => ?_⟩
          rw [hd] at h
          cases h
          exact ⟨a, q, oE_tag (g := false) rfl rfl⟩
        · exact key .bef (c :: r) ats (by simp [atStep, h62]) a q (fun n h => by cases h) (oE_tag (g := true) rfl (by simp [mTag, mkT, stOf, h62]))
end Go.Proofs.Ytihgmgpcdodknaa
/- Plain: the machine outside of attributes: it only adds tokens; names, bogus markup, remarks. -/
namespace Go.Proofs.Ytihgmgpcdodknaa
open Go.RowKit

theorem mEnd_len (m : Mc) : m.out.length ≤ (mEnd m).out.length := by unfold mEnd; split <;> simp
theorem mText_len (m : Mc) (d : Bool) : m.out.length ≤ (mText m d).out.length := by
  have h : (mText m d).out = if (if d then decL m.text else m.text) = [] then m.out else m.out ++ [⟨3, [], if d then decL m.text else m.text, [], false⟩] := rfl
  rw [h]
  by_cases h0 : (if d then decL m.text else m.text) = []
  · rw [if_pos h0]; exact Nat.le_refl _
  · rw [if_neg h0]; simp
theorem mTag_len (m : Mc) (c : UInt8) : m.out.length ≤ (mTag m c).1.out.length := by
  have hE := mEnd_len
  unfold mTag
  repeat' split
  all_goals first
    | exact Nat.le_refl _
    | exact hE m
    | exact hE (mPut m)
    | exact hE { m with tag := { m.tag with c := true } }
theorem mVal_len (m : Mc) (c : UInt8) : m.out.length ≤ (mVal m c).1.out.length := by
  have hE := mEnd_len
  unfold mVal
  repeat' split
  all_goals first
    | exact Nat.le_refl _
    | exact hE (mPut m)
theorem mOut_len (m : Mc) (c : UInt8) (r : List UInt8) : m.out.length ≤ (mOut m c r).1.out.length := by
  have hT := mText_len m
  unfold mOut
  repeat' split
  all_goals first
    | exact Nat.le_refl _
    | exact hT true
    | exact hT (m.kind == 1)
    | simp
theorem mStep_len (m : Mc) (c : UInt8) (r : List UInt8) : m.out.length ≤ (mStep m c r).1.out.length := by
  unfold mStep
  split
  · exact mTag_len m c
  · split
    · exact mVal_len m c
    · exact mOut_len m c r
theorem mFin_len (m : Mc) : m.out.length ≤ (mFin m).out.length := by
  unfold mFin
  split
  · exact mText_len m true
  · split
    · exact mText_len m _
    · split
      · simp
      · exact Nat.le_refl _
theorem oE_grow : ∀ (n : Nat) (m : Mc) (l : List UInt8), 3 * l.length + wSt m.st ≤ n → m.out.length ≤ (oE m l).length := by
  intro n
  induction n with
  | zero =>
    intro m l h
    have hl : l = [] := List.eq_nil_of_length_eq_zero (by omega)
    subst hl
    exact mFin_len m
  | succ n ih =>
    intro m l h
    cases l with
    | nil => exact mFin_len m
    | cons c r =>
      have h1 := mStep_lt m c r
      have h2 := ih (mStep m c r).1 (mStep m c r).2 (by omega)
      have h3 := mStep_len m c r
      unfold oE at h2 ⊢
      rw [mGo_cons]
      omega
theorem oE_out {m : Mc} {c : UInt8} {r : List UInt8} (h : inTag m.st = false) (h2 : inVal m.st = false) : oE m (c :: r) = oE (mOut m c r).1 ((c :: r).drop (mOut m c r).2) := by
  unfold oE; rw [go_out m c r h h2]
/-- bogus markup -/
theorem oE_bogus : ∀ (l : List UInt8) (m : Mc), m.st = 13 → oE m l = if Lib.indexByte l 62 < 0 then m.out else oE { m with st := 0 } (bogusS l)
  | [], m, h => by
    rw [if_pos (show Lib.indexByte [] 62 < 0 from by decide)]
    unfold oE
    rw [mGo_nil]
    unfold mFin
    rw [h]
    rfl
  | c :: r, m, h => by
    rw [oE_out (by rw [h]; rfl) (by rw [h]; rfl)]
    by_cases hc : c = 62
    · subst hc
      have e : mOut m 62 r = ({ m with st := 0 }, 1) := by unfold mOut; simp only [h]; rw [if_pos trivial]
      have ei : Lib.indexByte (62 :: r) 62 = 0 := by rw [Lib.indexByte]; simp
      rw [e, if_neg (by rw [ei]; decide)]
      unfold bogusS
      rw [if_neg (by rw [ei]; decide), ei]
      rfl
    · have e : mOut m c r = (m, 1) := by unfold mOut; simp only [h]; rw [if_neg hc]
      have ih := oE_bogus r m h
      rw [e]
      show oE m r = _
      rw [ih]
      have hcb : (c == 62) = false := by simpa using hc
      have hg := Lib.indexByte_ge r 62
      by_cases hn : Lib.indexByte r 62 < 0
      · have e1 : Lib.indexByte r 62 = -1 := by omega
        have ei : Lib.indexByte (c :: r) 62 = -1 := by rw [Lib.indexByte, e1]; simp [hcb]
        rw [if_pos hn, if_pos (by rw [ei]; decide)]
      · obtain ⟨j, hj⟩ : ∃ j : Nat, Lib.indexByte r 62 = (j : Int) := ⟨(Lib.indexByte r 62).toNat, by omega⟩
        have ei : Lib.indexByte (c :: r) 62 = ((j + 1 : Nat) : Int) := by
          rw [Lib.indexByte, hj, hcb]
          have : ((j : Int) == -1) = false := by rw [beq_eq_false_iff_ne]; omega
          simp [this]
        rw [if_neg hn, if_neg (by rw [ei]; omega)]
        unfold bogusS
        rw [if_neg hn, if_neg (by rw [ei]; omega), hj, ei, Int.toNat_natCast, Int.toNat_natCast, List.drop_succ_cons]
theorem data_same (r : List UInt8) : dataOpen r = opensB r := by
  cases r with
  | nil => rfl
  | cons d t =>
    have e : opensB (d :: t) = if d = 47 ∧ t = [] then false else d == 47 || d == 33 || d == 63 || isLetter d := rfl
    have e2 : dataOpen (d :: t) = (isLetter d || d == 33 || d == 63 || (d == 47 && !t.isEmpty)) := rfl
    rw [e, e2]
    by_cases hd : d = 47
    · subst hd
      cases t <;> simp [isLetter]
    · have : (d == 47) = false := by simpa using hd
      rw [if_neg (fun h => hd h.1), this]
      cases isLetter d <;> cases d == 33 <;> cases d == 63 <;> rfl
end Go.Proofs.Ytihgmgpcdodknaa
/- Plain: the machine answers toks. -/
namespace Go.Proofs.Ytihgmgpcdodknaa
open Go.RowKit

/-- the machine's tokens M against the plain law's: none: too many -/
def Agr (o : Option (List Tk)) (M : List Tk) : Prop := match o with
  | none => 4096 < M.length
  | some L => M = L
/-- the machine between tags: a text gathered, tokens -/
def dm (b : Mc) (t : List UInt8) (L : List Tk) : Mc := { b with st := 0, text := t, out := L }
/-- a text gathered ahead of the rest -/
def tokX (t l : List UInt8) (L : List Tk) : Option (List Tk) :=
  (toldS (t ++ l.take (scanN l)) true L).bind fun L1 => if l.drop (scanN l) = [] then some L1 else goOn (markS (l.drop (scanN l)) L1)
theorem tokX_tok (l : List UInt8) (L : List Tk) : tokX [] l L = tokT l L := by
  unfold tokX
  rw [List.nil_append]
  cases h : toldS (l.take (scanN l)) true L with
  | none =>
    by_cases h0 : l = []
    · subst h0
      unfold toldS at h
      rw [if_pos (show (if true = true then decL (List.take (scanN []) []) else List.take (scanN []) []) = [] from rfl)] at h
      cases h
    · rw [tokT_none l L h0 h]; rfl
  | some L1 =>
    rw [Option.bind_some]
    by_cases h1 : l.drop (scanN l) = []
    · rw [if_pos h1, tokT_end l L L1 h h1]
    · rw [if_neg h1, tokT_mark' l L L1 h h1]
theorem mText_out (m : Mc) : (mText m true).out = if decL m.text = [] then m.out else m.out ++ [⟨3, [], decL m.text, [], false⟩] := rfl
/-- a text told: too many, or the same -/
theorem told_agr (x : List UInt8) (d : Bool) (L : List Tk) (hL : L.length ≤ 4096) : Agr (toldS x d L) (if (if d then decL x else x) = [] then L else L ++ [⟨3, [], if d then decL x else x, [], false⟩]) := by
  unfold toldS tellS
  by_cases h0 : (if d then decL x else x) = []
  · rw [if_pos h0, if_pos h0]; rfl
  · rw [if_neg h0, if_neg h0]
    by_cases h1 : L.length = 4096
    · rw [if_pos h1]; show 4096 < _; simp [h1]
    · rw [if_neg h1]; rfl
theorem tell_agr (t : Tk) (L : List Tk) (hL : L.length ≤ 4096) : Agr (tellS t L) (L ++ [t]) := by
  unfold tellS
  by_cases h1 : L.length = 4096
  · rw [if_pos h1]; show 4096 < _; simp [h1]
  · rw [if_neg h1]; rfl
/-- a tag's name -/
theorem oE_name : ∀ (l : List UInt8) (m : Mc), m.st = 3 → oE m l = if l.dropWhile nameC = [] then m.out else oE { m with st := 4, tag := { m.tag with n := m.tag.n ++ low (l.takeWhile nameC) } } (l.dropWhile nameC)
  | [], m, h => by
    rw [if_pos (show List.dropWhile nameC [] = [] from rfl)]
    unfold oE
    rw [mGo_nil]
    unfold mFin
    rw [h]
    rfl
  | c :: r, m, h => by
    by_cases hc : nameC c = true
    · have hb : ¬ isBlank c = true := by intro e; unfold nameC at hc; rw [e] at hc; cases hc
      have h47 : c ≠ 47 := by rintro rfl; revert hc; decide
      have h62 : c ≠ 62 := by rintro rfl; revert hc; decide
      have e : mTag m c = ({ m with tag := { m.tag with n := m.tag.n ++ [lowB c] } }, false) := by
        unfold mTag; simp only [h]; rw [if_neg hb, if_neg h47, if_neg h62]
      rw [oE_tag (by rw [h]; rfl) e]
      have ih := oE_name r { m with tag := { m.tag with n := m.tag.n ++ [lowB c] } } h
      show oE _ r = _
      rw [ih]
      simp [hc, low]
    · have hcc : isBlank c = true ∨ c = 47 ∨ c = 62 := by
        unfold nameC at hc
        by_cases hb : isBlank c = true
        · exact .inl hb
        · have hb' : isBlank c = false := by simpa using hb
          rw [hb'] at hc
          right
          by_cases h47 : c = 47
          · exact .inl h47
          · right
            have : (c != 47) = true := by simpa using h47
            rw [this] at hc
            simpa using hc
      have e4 : (mTag m c) = mTag { m with st := 4 } c := by
        unfold mTag
        simp only [h]
        rcases hcc with hb | rfl | rfl
        · rw [if_pos hb, if_pos hb]
        · rfl
        · rfl
      have ht : ∃ g, mTag { m with st := 4 } c = g := ⟨_, rfl⟩
      obtain ⟨⟨m', g⟩, hg⟩ := ht
      have hne : (c :: r).dropWhile nameC = c :: r := by simp [hc]
      have htk : (c :: r).takeWhile nameC = [] := by simp [hc]
      have e1 : oE m (c :: r) = oE { m with st := 4 } (c :: r) := by
        rw [oE_tag (m := m) (by rw [h]; rfl) (e4.trans hg), oE_tag (m := { m with st := 4 }) rfl hg]
      rw [e1, hne, htk, if_neg (List.cons_ne_nil _ _)]
      have e5 : ({ m with st := 4, tag := { m.tag with n := m.tag.n ++ low [] } } : Mc) = { m with st := 4 } := by simp [low]
      rw [e5]
end Go.Proofs.Ytihgmgpcdodknaa
/- Plain: the machine within remarks and raw texts. -/
namespace Go.Proofs.Ytihgmgpcdodknaa
open Go.RowKit

theorem oE_comment : ∀ (l : List UInt8) (m : Mc), m.st = 14 → oE m l = if Lib.index l [45, 45, 62] < 0 then m.out ++ [⟨4, [], m.text ++ l, [], false⟩]
    else oE { m with st := 0, text := [], out := m.out ++ [⟨4, [], m.text ++ l.take (Lib.index l [45, 45, 62]).toNat, [], false⟩] } (l.drop ((Lib.index l [45, 45, 62]).toNat + 3))
  | [], m, h => by
    rw [if_pos (show Lib.index [] [45, 45, 62] < 0 from by decide)]
    unfold oE
    rw [mGo_nil]
    unfold mFin
    rw [h]
    simp
  | c :: r, m, h => by
    rw [oE_out (by rw [h]; rfl) (by rw [h]; rfl)]
    by_cases hp : [45, 45, 62].isPrefixOf (c :: r) = true
    · have e : mOut m c r = ({ m with out := m.out ++ [⟨4, [], m.text, [], false⟩], text := [], st := 0 }, 3) := by unfold mOut; simp only [h]; rw [if_pos hp]
      have ei : Lib.index (c :: r) [45, 45, 62] = 0 := by rw [Lib.index, if_pos hp]
      rw [e, ei, if_neg (by decide)]
      simp
    · have e : mOut m c r = ({ m with text := m.text ++ [c] }, 1) := by unfold mOut; simp only [h]; rw [if_neg hp]
      have ih := oE_comment r { m with text := m.text ++ [c] } h
      rw [e]
      show oE _ r = _
      rw [ih]
      have hg := Lib.index_ge r [45, 45, 62]
      by_cases hn : Lib.index r [45, 45, 62] < 0
      · have e1 : Lib.index r [45, 45, 62] = -1 := by omega
        have ei : Lib.index (c :: r) [45, 45, 62] = -1 := by rw [Lib.index, if_neg hp, e1]; rfl
        rw [if_pos hn, if_pos (by rw [ei]; decide)]
        simp
      · obtain ⟨j, hj⟩ : ∃ j : Nat, Lib.index r [45, 45, 62] = (j : Int) := ⟨(Lib.index r [45, 45, 62]).toNat, by omega⟩
        have ei : Lib.index (c :: r) [45, 45, 62] = ((j + 1 : Nat) : Int) := by
          rw [Lib.index, if_neg hp, hj]
          have : ((j : Int) == -1) = false := by rw [beq_eq_false_iff_ne]; omega
          simp [this]
        rw [if_neg hn, if_neg (by rw [ei]; omega), hj, ei, Int.toNat_natCast, Int.toNat_natCast]
        have e2 : (c :: r).drop (j + 1 + 3) = r.drop (j + 3) := by rw [show j + 1 + 3 = (j + 3) + 1 from by omega, List.drop_succ_cons]
        rw [e2]
        simp
theorem low60 (c : UInt8) (h : lowB c = 60) : c = 60 := by
  have key : ∀ k : Fin 256, lowB (UInt8.ofNat k.val) = 60 → UInt8.ofNat k.val = 60 := by decide +kernel
  have e : c = UInt8.ofNat c.toNat := by simp
  rw [e] at h ⊢
  exact key ⟨c.toNat, c.toNat_lt⟩ h
theorem ends_60 {nm r : List UInt8} {c : UInt8} (h : endsB nm (c :: r) = true) : c = 60 := by
  unfold endsB startsB at h
  rw [Bool.and_eq_true, Bool.and_eq_true, beq_iff_eq] at h
  have h1 := h.1.2
  have h2 : low ((c :: r).take (60 :: 47 :: nm).length) = lowB c :: low (r.take (47 :: nm).length) := rfl
  rw [h2] at h1
  injection h1 with h3 _
  exact low60 c h3
/-- a raw text, up to its end tag's name -/
theorem oE_raw : ∀ (l : List UInt8) (m : Mc), m.st = 15 → oE m l = match rawN m.raw l with
    | none => (mText { m with text := m.text ++ l } (m.kind == 1)).out
    | some j => oE { mText { m with text := m.text ++ l.take j } (m.kind == 1) with st := 3, tag := { tk0 with k := 2, n := low (((l.drop j).drop 2).take m.raw.length) } } ((l.drop j).drop (m.raw.length + 2))
  | [], m, h => by
    have e : mFin m = mText m (m.kind == 1) := by unfold mFin; rw [h]; rfl
    unfold oE
    rw [mGo_nil, e]
    simp [rawN]
  | c :: r, m, h => by
    rw [oE_out (by rw [h]; rfl) (by rw [h]; rfl)]
    by_cases he : endsB m.raw (c :: r) = true
    · have hc := ends_60 he
      have e : mOut m c r = ({ mText m (m.kind == 1) with st := 3, tag := { tk0 with k := 2, n := low (((c :: r).drop 2).take m.raw.length) } }, m.raw.length + 2) := by unfold mOut; simp only [h]; rw [if_pos he]
      have en : rawN m.raw (c :: r) = some 0 := by rw [rawN, if_pos ⟨hc, he⟩]
      rw [e, en]
      simp
    · have e : mOut m c r = ({ m with text := m.text ++ [c] }, 1) := by unfold mOut; simp only [h]; rw [if_neg he]
      have ih := oE_raw r { m with text := m.text ++ [c] } h
      have en : rawN m.raw (c :: r) = (rawN m.raw r).map (· + 1) := by rw [rawN, if_neg (fun x => he x.2)]
      rw [e, en]
      show oE _ r = _
      rw [ih]
      cases rawN m.raw r with
      | none => simp
      | some j => simp
end Go.Proofs.Ytihgmgpcdodknaa
/- Plain: the machine and tags. -/
namespace Go.Proofs.Ytihgmgpcdodknaa
open Go.RowKit

/-- the machine against the plain law of markup -/
def AgrR (o : Res) (m : Mc) (l : List UInt8) : Prop := match o with
  | none => 4096 < (oE m l).length
  | some (false, L', _) => oE m l = L'
  | some (true, L', r) => ∃ b', oE m l = oE (dm b' [] L') r
theorem oE_pre : ∀ (nm l : List UInt8) (m : Mc), m.st = 3 → nm.all nameC = true → oE m (nm ++ l) = oE { m with tag := { m.tag with n := m.tag.n ++ low nm } } l
  | [], l, m, h, _ => by simp [low]
  | c :: r, l, m, h, ha => by
    rw [List.all_cons, Bool.and_eq_true] at ha
    have hc := ha.1
    have hb : ¬ isBlank c = true := by intro e; unfold nameC at hc; rw [e] at hc; cases hc
    have h47 : c ≠ 47 := by rintro rfl; revert hc; decide
    have h62 : c ≠ 62 := by rintro rfl; revert hc; decide
    have e : mTag m c = ({ m with tag := { m.tag with n := m.tag.n ++ [lowB c] } }, false) := by
      unfold mTag; simp only [h]; rw [if_neg hb, if_neg h47, if_neg h62]
    rw [List.cons_append, oE_tag (by rw [h]; rfl) e]
    have ih := oE_pre r l { m with tag := { m.tag with n := m.tag.n ++ [lowB c] } } h ha.2
    show oE _ (r ++ l) = _
    rw [ih]
    simp [low]
theorem oE_more (m : Mc) (l : List UInt8) : m.out.length ≤ (oE m l).length := oE_grow _ m l (Nat.le_refl _)
/-- an end tag -/
theorem tagE_run (m : Mc) (l : List UInt8) (L : List Tk) (hst : m.st = 3) (htag : m.tag = ⟨2, [], [], [], false⟩) (htx : m.text = []) (ho : m.out = L) (hL : L.length ≤ 4096) : AgrR (tagE l L) m l := by
  have hn := oE_name l m hst
  unfold tagE
  by_cases hd : l.dropWhile nameC = []
  · rw [if_pos hd] at hn
    rw [hd, show atT .bef [] [] = none from atT_fail rfl]
    show oE m l = L
    rw [hn, ho]
  · rw [if_neg hd, htag] at hn
    have ha := at_run { m with tag := ⟨2, low (l.takeWhile nameC), [], [], false⟩ } _ .bef (l.dropWhile nameC) [] m.a m.quote (Nat.le_refl _) (fun n h => by cases h)
    have e0 : ({ m with st := 4, tag := { (⟨2, [], [], [], false⟩ : Tk) with n := ([] : List UInt8) ++ low (l.takeWhile nameC) } } : Mc) = mkT { m with tag := ⟨2, low (l.takeWhile nameC), [], [], false⟩ } (stOf .bef) m.a m.quote [] := rfl
    have hn2 : oE m l = oE (mkT { m with tag := ⟨2, low (l.takeWhile nameC), [], [], false⟩ } (stOf .bef) m.a m.quote []) (l.dropWhile nameC) := hn
    cases hat : atT .bef (l.dropWhile nameC) [] with
    | none =>
      show oE m l = L
      rw [hn2, ha.1 hat]
      exact ho
    | some p =>
      obtain ⟨ats, cl, r⟩ := p
      obtain ⟨a', q', h2⟩ := ha.2 ats cl r hat
      have e1 : endT { m with tag := ⟨2, low (l.takeWhile nameC), [], [], false⟩ } a' q' ats cl = dm { m with tag := tk0, a := a', quote := q' } [] (L ++ [⟨2, low (l.takeWhile nameC), [], [], false⟩]) := by
        unfold endT mEnd dm
        rw [if_neg (by simp [mTok])]
        simp [mTok, ho, htx]
      rw [e1] at h2
      simp only
      unfold tellS
      by_cases h9 : L.length = 4096
      · rw [if_pos h9]
        show 4096 < (oE m l).length
        rw [hn2, h2]
        refine Nat.lt_of_lt_of_le ?_ (oE_more _ _)
        show 4096 < (L ++ [_]).length
        simp [h9]
      · rw [if_neg h9]
        exact ⟨_, hn2.trans h2⟩
end Go.Proofs.Ytihgmgpcdodknaa
/- Plain: the machine, raw texts and start tags. -/
namespace Go.Proofs.Ytihgmgpcdodknaa
open Go.RowKit

theorem AgrR_eq {o : Res} {m m' : Mc} {l l' : List UInt8} (h : oE m l = oE m' l') (ha : AgrR o m' l') : AgrR o m l := by
  match o, ha with
  | none, ha => show 4096 < (oE m l).length; rw [h]; exact ha
  | some (false, L', _), ha => exact h.trans ha
  | some (true, L', r), ⟨b', ha⟩ => exact ⟨b', h.trans ha⟩
theorem oE_dm_nil (b : Mc) (L : List Tk) : oE (dm b [] L) [] = L := by
  unfold oE
  rw [mGo_nil]
  show (mText (dm b [] L) true).out = L
  rw [mText_out, if_pos (show decL (dm b [] L).text = [] from rfl)]
  rfl
theorem rawN_some : ∀ (nm l : List UInt8) (j : Nat), rawN nm l = some j → endsB nm (l.drop j) = true
  | nm, [], j, h => by cases h
  | nm, c :: r, j, h => by
    rw [rawN] at h
    split at h
    · rename_i hc
      cases h
      exact hc.2
    · obtain ⟨i, hi, rfl⟩ := Option.map_eq_some_iff.1 h
      exact rawN_some nm r i hi
theorem small_name (c : UInt8) (h : 97 ≤ (lowB c).toNat ∧ (lowB c).toNat ≤ 122) : nameC c = true := by
  have key : ∀ k : Fin 256, 97 ≤ (lowB (UInt8.ofNat k.val)).toNat ∧ (lowB (UInt8.ofNat k.val)).toNat ≤ 122 → nameC (UInt8.ofNat k.val) = true := by decide +kernel
  have e : c = UInt8.ofNat c.toNat := by simp
  rw [e] at h ⊢
  exact key ⟨c.toNat, c.toNat_lt⟩ h
theorem elem_small (nm : List UInt8) (h1 : 1 ≤ elemK nm) (h3 : elemK nm ≤ 3) : low nm = nm ∧ ∀ c ∈ nm, 97 ≤ c.toNat ∧ c.toNat ≤ 122 := by
  have h : nm = sTitle ∨ nm = sArea ∨ nm = sStyle ∨ nm = sScript := by
    unfold elemK at h1 h3
    by_cases a : nm = sTitle ∨ nm = sArea
    · rcases a with a | a
      · exact .inl a
      · exact .inr (.inl a)
    · rw [if_neg a] at h1 h3
      by_cases b : nm = sStyle
      · exact .inr (.inr (.inl b))
      · rw [if_neg b] at h1 h3
        by_cases c : nm = sScript
        · exact .inr (.inr (.inr c))
        · rw [if_neg c] at h1 h3
          split at h1 <;> rename_i d
          · rw [if_pos d] at h3; omega
          · omega
  rcases h with rfl | rfl | rfl | rfl <;> decide
theorem ends_name {nm l : List UInt8} (hs : low nm = nm ∧ ∀ c ∈ nm, 97 ≤ c.toNat ∧ c.toNat ≤ 122) (h : endsB nm l = true) : ((l.drop 2).take nm.length).all nameC = true := by
  unfold endsB startsB at h
  rw [Bool.and_eq_true, Bool.and_eq_true, beq_iff_eq, decide_eq_true_iff] at h
  have h1 := h.1.2
  have h2 : low ((l.drop 2).take nm.length) = nm := by
    have e1 : (l.drop 2).take nm.length = (l.take (60 :: 47 :: nm).length).drop 2 := by
      rw [List.drop_take]; rfl
    rw [e1, show low ((l.take (60 :: 47 :: nm).length).drop 2) = (low (l.take (60 :: 47 :: nm).length)).drop 2 from by simp [low, List.map_drop], h1]
    show ((lowB 60 :: lowB 47 :: low nm) : List UInt8).drop 2 = nm
    exact hs.1
  rw [List.all_eq_true]
  intro c hc
  apply small_name
  have : lowB c ∈ low ((l.drop 2).take nm.length) := List.mem_map.2 ⟨c, hc, rfl⟩
  rw [h2] at this
  exact hs.2 _ this
theorem toldS_le {x : List UInt8} {d : Bool} {L L' : List Tk} (hL : L.length ≤ 4096) (h : toldS x d L = some L') : L'.length ≤ 4096 := by
  unfold toldS tellS at h
  by_cases h0 : (if d = true then decL x else x) = []
  · rw [if_pos h0] at h
    injection h with h
    rw [← h]; exact hL
  · rw [if_neg h0] at h
    by_cases h9 : L.length = 4096
    · rw [if_pos h9] at h; cases h
    · rw [if_neg h9] at h
      injection h with h
      rw [← h, List.length_append]
      simp only [List.length_cons, List.length_nil]
      omega
theorem raw_run (m : Mc) (l : List UInt8) (L : List Tk) (nm : List UInt8) (k : Int) (hst : m.st = 15) (hraw : m.raw = nm) (hk : m.kind = k) (htx : m.text = []) (ho : m.out = L) (hL : L.length ≤ 4096) (hs : low nm = nm ∧ ∀ c ∈ nm, 97 ≤ c.toNat ∧ c.toNat ≤ 122) :
    AgrR (rawS k nm l L) m l := by
  obtain ⟨st, text, tag, a, q, raw, kind, out⟩ := m
  simp only at hst hraw hk htx ho
  subst hst hraw hk htx ho
  have hr := oE_raw l ⟨15, [], tag, a, q, raw, kind, out⟩ rfl
  simp only [List.nil_append] at hr
  unfold rawS
  cases hn : rawN raw l with
  | none =>
    rw [hn] at hr
    simp only at hr ⊢
    have ha := told_agr l (kind == 1) out hL
    have hr2 : oE ⟨15, [], tag, a, q, raw, kind, out⟩ l = if (if (kind == 1) = true then decL l else l) = [] then out else out ++ [⟨3, [], if (kind == 1) = true then decL l else l, [], false⟩] := by rw [hr]; rfl
    rw [← hr2] at ha
    cases ht : toldS l (kind == 1) out with
    | none => rw [ht] at ha; exact ha
    | some L' =>
      rw [ht] at ha
      exact ⟨mc0, (show oE ⟨15, [], tag, a, q, raw, kind, out⟩ l = L' from ha).trans (oE_dm_nil mc0 L').symm⟩
  | some j =>
    rw [hn] at hr
    simp only at hr ⊢
    have ha := told_agr (l.take j) (kind == 1) out hL
    have hout : (mText ⟨15, l.take j, tag, a, q, raw, kind, out⟩ (kind == 1)).out = if (if (kind == 1) = true then decL (l.take j) else l.take j) = [] then out else out ++ [⟨3, [], if (kind == 1) = true then decL (l.take j) else l.take j, [], false⟩] := rfl
    rw [← hout] at ha
    cases ht : toldS (l.take j) (kind == 1) out with
    | none =>
      rw [ht] at ha
      show 4096 < (oE ⟨15, [], tag, a, q, raw, kind, out⟩ l).length
      rw [hr]
      refine Nat.lt_of_lt_of_le ?_ (oE_more _ _)
      exact ha
    | some L' =>
      rw [ht] at ha
      have ha' : (mText ⟨15, l.take j, tag, a, q, raw, kind, out⟩ (kind == 1)).out = L' := ha
      have hall := ends_name hs (rawN_some raw l j hn)
      have hsp : l.drop (j + 2) = ((l.drop j).drop 2).take raw.length ++ (l.drop j).drop (raw.length + 2) := by
        rw [← List.drop_drop, show (l.drop j).drop (raw.length + 2) = ((l.drop j).drop 2).drop raw.length from by rw [List.drop_drop, List.drop_drop, List.drop_drop]; congr 1; omega, List.take_append_drop]
      have hp := oE_pre (((l.drop j).drop 2).take raw.length) ((l.drop j).drop (raw.length + 2)) { mText ⟨15, l.take j, tag, a, q, raw, kind, out⟩ (kind == 1) with st := 3, tag := ⟨2, [], [], [], false⟩ } rfl hall
      rw [← hsp] at hp
      have hL' := toldS_le hL ht
      have hq := tagE_run { mText ⟨15, l.take j, tag, a, q, raw, kind, out⟩ (kind == 1) with st := 3, tag := ⟨2, [], [], [], false⟩ } (l.drop (j + 2)) L' rfl rfl rfl ha' hL'
      exact AgrR_eq (hr.trans hp.symm) hq
end Go.Proofs.Ytihgmgpcdodknaa
/- Plain: the machine and start tags; markup. -/
namespace Go.Proofs.Ytihgmgpcdodknaa
open Go.RowKit

theorem tagS_run (m : Mc) (l : List UInt8) (L : List Tk) (hst : m.st = 3) (htag : m.tag = ⟨1, [], [], [], false⟩) (htx : m.text = []) (ho : m.out = L) (hL : L.length ≤ 4096) : AgrR (tagS l L) m l := by
  have hn := oE_name l m hst
  unfold tagS
  by_cases hd : l.dropWhile nameC = []
  · rw [if_pos hd] at hn
    rw [hd, show atT .bef [] [] = none from atT_fail rfl]
    show oE m l = L
    rw [hn, ho]
  · rw [if_neg hd, htag] at hn
    have ha := at_run { m with tag := ⟨1, low (l.takeWhile nameC), [], [], false⟩ } _ .bef (l.dropWhile nameC) [] m.a m.quote (Nat.le_refl _) (fun n h => by cases h)
    have hn2 : oE m l = oE (mkT { m with tag := ⟨1, low (l.takeWhile nameC), [], [], false⟩ } (stOf .bef) m.a m.quote []) (l.dropWhile nameC) := hn
    cases hat : atT .bef (l.dropWhile nameC) [] with
    | none =>
      show oE m l = L
      rw [hn2, ha.1 hat]
      exact ho
    | some p =>
      obtain ⟨ats, cl, r⟩ := p
      obtain ⟨a', q', h2⟩ := ha.2 ats cl r hat
      simp only
      generalize low (l.takeWhile nameC) = nm at *
      unfold tellS
      by_cases h9 : L.length = 4096
      · rw [if_pos h9]
        show 4096 < (oE m l).length
        rw [hn2, h2]
        refine Nat.lt_of_lt_of_le ?_ (oE_more _ _)
        have : (endT { m with tag := ⟨1, nm, [], [], false⟩ } a' q' ats cl).out = L ++ [⟨1, nm, [], ats, cl⟩] := by
          unfold endT mEnd
          split <;> simp [mTok, ho]
        rw [this]
        simp [h9]
      · rw [if_neg h9, Option.bind_some]
        have hL' : (L ++ [(⟨1, nm, [], ats, cl⟩ : Tk)]).length ≤ 4096 := by rw [List.length_append]; simp only [List.length_cons, List.length_nil]; omega
        by_cases hk : elemK nm < 1 ∨ 3 < elemK nm
        · rw [if_pos hk]
          have e1 : endT { m with tag := ⟨1, nm, [], [], false⟩ } a' q' ats cl = dm { m with tag := tk0, a := a', quote := q' } [] (L ++ [⟨1, nm, [], ats, cl⟩]) := by
            unfold endT mEnd dm
            rw [if_neg (by simp [mTok]; omega)]
            simp [mTok, ho, htx]
          rw [e1] at h2
          exact ⟨_, hn2.trans h2⟩
        · rw [if_neg hk]
          have e1 : endT { m with tag := ⟨1, nm, [], [], false⟩ } a' q' ats cl = { m with tag := tk0, a := a', quote := q', st := 15, raw := nm, kind := elemK nm, out := L ++ [⟨1, nm, [], ats, cl⟩] } := by
            unfold endT mEnd
            rw [if_pos (by simp [mTok]; omega)]
            simp [mTok, ho]
          rw [e1] at h2
          exact AgrR_eq (hn2.trans h2) (raw_run _ r _ nm (elemK nm) rfl rfl rfl htx rfl hL' (elem_small nm (by omega) (by omega)))
end Go.Proofs.Ytihgmgpcdodknaa
/- Plain: the reference's reader answers toks. -/
namespace Go.Proofs.Ytihgmgpcdodknaa
open Go.RowKit

/-- on behind markup without a tag -/
def mapB (o : Option (List Tk × List UInt8)) : Res := o.map fun p => (true, p.1, p.2)
theorem bogus_run (m : Mc) (l : List UInt8) (L : List Tk) (hst : m.st = 13) (htx : m.text = []) (ho : m.out = L) : AgrR (some (true, L, bogusS l)) m l := by
  have h := oE_bogus l m hst
  by_cases hi : Lib.indexByte l 62 < 0
  · rw [if_pos hi] at h
    have hb : bogusS l = [] := by unfold bogusS; rw [if_pos hi]
    rw [hb]
    exact ⟨mc0, (h.trans ho).trans (oE_dm_nil mc0 L).symm⟩
  · rw [if_neg hi] at h
    refine ⟨m, h.trans ?_⟩
    have e : ({ m with st := 0 } : Mc) = dm m [] L := by unfold dm; rw [← htx, ← ho]
    rw [e]
theorem bang_run (m : Mc) (l : List UInt8) (L : List Tk) (hst : m.st = 12) (htx : m.text = []) (ho : m.out = L) (hL : L.length ≤ 4096) : AgrR (mapB (bangS l L)) m l := by
  unfold bangS
  cases l with
  | nil =>
    refine ⟨mc0, ?_⟩
    have h : oE m [] = L := by unfold oE; rw [mGo_nil]; unfold mFin; rw [hst]; exact ho
    exact h.trans (oE_dm_nil mc0 L).symm
  | cons c r =>
    have hs := oE_out (m := m) (c := c) (r := r) (by rw [hst]; rfl) (by rw [hst]; rfl)
    by_cases hp : [45, 45].isPrefixOf (c :: r) = true
    · have e : mOut m c r = ({ m with st := 14 }, 2) := by unfold mOut; simp only [hst]; rw [if_pos hp]
      rw [e] at hs
      have hc := oE_comment ((c :: r).drop 2) { m with st := 14 } rfl
      rw [if_pos hp]
      have hs2 : oE m (c :: r) = oE { m with st := 14 } ((c :: r).drop 2) := hs
      have ht := tell_agr
      by_cases hi : Lib.index ((c :: r).drop 2) [45, 45, 62] < 0
      · rw [if_pos hi] at hc ⊢
        have hc2 : oE m (c :: r) = L ++ [⟨4, [], (c :: r).drop 2, [], false⟩] := by rw [hs2, hc, ← ho]; simp [htx]
        have ha := tell_agr ⟨4, [], (c :: r).drop 2, [], false⟩ L hL
        rw [← hc2] at ha
        cases h4 : tellS ⟨4, [], (c :: r).drop 2, [], false⟩ L with
        | none => rw [h4] at ha; exact ha
        | some L' => rw [h4] at ha; exact ⟨mc0, (show oE m (c :: r) = L' from ha).trans (oE_dm_nil mc0 L').symm⟩
      · rw [if_neg hi] at hc ⊢
        have ha := tell_agr ⟨4, [], ((c :: r).drop 2).take (Lib.index ((c :: r).drop 2) [45, 45, 62]).toNat, [], false⟩ L hL
        have hc2 : oE m (c :: r) = oE (dm m [] (L ++ [⟨4, [], ((c :: r).drop 2).take (Lib.index ((c :: r).drop 2) [45, 45, 62]).toNat, [], false⟩])) (((c :: r).drop 2).drop ((Lib.index ((c :: r).drop 2) [45, 45, 62]).toNat + 3)) := by
          rw [hs2, hc]
          unfold dm
          simp [htx, ho]
        cases h4 : tellS ⟨4, [], ((c :: r).drop 2).take (Lib.index ((c :: r).drop 2) [45, 45, 62]).toNat, [], false⟩ L with
        | none =>
          rw [h4] at ha
          show 4096 < (oE m (c :: r)).length
          rw [hc2]
          refine Nat.lt_of_lt_of_le ?_ (oE_more _ _)
          exact ha
        | some L' =>
          rw [h4] at ha
          have ha2 : L ++ [⟨4, [], ((c :: r).drop 2).take (Lib.index ((c :: r).drop 2) [45, 45, 62]).toNat, [], false⟩] = L' := ha
          rw [ha2] at hc2
          exact ⟨m, hc2⟩
    · have e : mOut m c r = ({ m with st := 13 }, 0) := by unfold mOut; simp only [hst]; rw [if_neg hp]
      rw [e] at hs
      rw [if_neg hp]
      exact AgrR_eq hs (bogus_run { m with st := 13 } (c :: r) L rfl htx ho)
theorem mark_run (m : Mc) (c : UInt8) (r : List UInt8) (L : List Tk) (hst : m.st = 1) (htx : m.text = []) (ho : m.out = L) (hL : L.length ≤ 4096) (hop : opensB (c :: r) = true) : AgrR (markS (60 :: c :: r) L) m (c :: r) := by
  have hs := oE_out (m := m) (c := c) (r := r) (by rw [hst]; rfl) (by rw [hst]; rfl)
  rw [markS_cons]
  by_cases hl : isLetter c = true
  · have h47 : c ≠ 47 := by rintro rfl; revert hl; decide
    have h33 : c ≠ 33 := by rintro rfl; revert hl; decide
    have h63 : c ≠ 63 := by rintro rfl; revert hl; decide
    have e : mOut m c r = ({ m with st := 3, tag := { tk0 with k := 1 } }, 0) := by unfold mOut; simp only [hst]; rw [if_neg h47, if_neg h33, if_neg h63]
    rw [e] at hs
    rw [if_pos hl]
    exact AgrR_eq hs (tagS_run { m with st := 3, tag := { tk0 with k := 1 } } (c :: r) L rfl rfl htx ho hL)
  · rw [if_neg hl]
    by_cases h33 : c = 33
    · subst h33
      have e : mOut m 33 r = ({ m with st := 12 }, 1) := by unfold mOut; simp only [hst]; rfl
      rw [e] at hs
      exact AgrR_eq hs (bang_run { m with st := 12 } r L rfl htx ho hL)
    · rw [if_neg h33]
      by_cases h63 : c = 63
      · subst h63
        have e : mOut m 63 r = ({ m with st := 13 }, 1) := by unfold mOut; simp only [hst]; rfl
        rw [e] at hs
        have hb : bogusS (63 :: r) = bogusS r := by
          unfold bogusS
          rw [Lib.indexByte]
          have : ((63 : UInt8) == 62) = false := rfl
          rw [this]
          have hg := Lib.indexByte_ge r 62
          by_cases hn : Lib.indexByte r 62 < 0
          · have e1 : Lib.indexByte r 62 = -1 := by omega
            rw [e1]; rfl
          · obtain ⟨j, hj⟩ : ∃ j : Nat, Lib.indexByte r 62 = (j : Int) := ⟨(Lib.indexByte r 62).toNat, by omega⟩
            rw [hj]
            have h1 : ((j : Int) == -1) = false := by rw [beq_eq_false_iff_ne]; omega
            simp only [h1, Bool.false_eq_true, if_false]
            rw [if_neg (by omega), if_neg (by omega), show ((j : Int) + 1).toNat = j + 1 from by omega, Int.toNat_natCast, List.drop_succ_cons]
        rw [if_pos rfl, hb]
        exact AgrR_eq hs (bogus_run { m with st := 13 } r L rfl htx ho)
      · rw [if_neg h63]
        have h47 : c = 47 := Decidable.byContradiction fun h => by
          have e : opensB (c :: r) = if c = 47 ∧ r = [] then false else c == 47 || c == 33 || c == 63 || isLetter c := rfl
          rw [e, if_neg (fun x => h x.1)] at hop
          simp [h, h33, h63, hl] at hop
        subst h47
        have e : mOut m 47 r = ({ m with st := 2 }, 1) := by unfold mOut; simp only [hst]; rfl
        rw [e] at hs
        cases r with
        | nil => cases hop
        | cons d t =>
          have hs2 := oE_out (m := { m with st := 2 }) (c := d) (r := t) rfl rfl
          have hs3 : oE m (47 :: d :: t) = oE { m with st := 2 } (d :: t) := hs
          simp only
          by_cases hld : isLetter d = true
          · have e2 : mOut { m with st := 2 } d t = ({ m with st := 3, tag := { tk0 with k := 2 } }, 0) := by unfold mOut; simp only; rw [if_pos hld]
            rw [e2] at hs2
            rw [if_pos hld]
            exact AgrR_eq (hs3.trans hs2) (tagE_run { m with st := 3, tag := { tk0 with k := 2 } } (d :: t) L rfl rfl htx ho hL)
          · rw [if_neg hld]
            by_cases hd : d = 62
            · subst hd
              have e2 : mOut { m with st := 2 } 62 t = ({ m with st := 0 }, 1) := by unfold mOut; rfl
              rw [e2] at hs2
              rw [if_pos rfl]
              refine ⟨m, (hs3.trans hs2).trans ?_⟩
              have e3 : ({ m with st := 0 } : Mc) = dm m [] L := by unfold dm; rw [← htx, ← ho]
              rw [e3]; rfl
            · rw [if_neg hd]
              have e2 : mOut { m with st := 2 } d t = ({ m with st := 13 }, 0) := by unfold mOut; simp only; rw [if_neg hld, if_neg hd]
              rw [e2] at hs2
              exact AgrR_eq (hs3.trans hs2) (bogus_run { m with st := 13 } (d :: t) L rfl htx ho)
end Go.Proofs.Ytihgmgpcdodknaa
/- Plain: the reference's reader answers toks. -/
namespace Go.Proofs.Ytihgmgpcdodknaa
open Go.RowKit

theorem tellS_le4 {t : Tk} {L L' : List Tk} (hL : L.length ≤ 4096) (h : tellS t L = some L') : L'.length ≤ 4096 := by
  unfold tellS at h
  by_cases h9 : L.length = 4096
  · rw [if_pos h9] at h; cases h
  · rw [if_neg h9] at h
    injection h with h
    rw [← h, List.length_append]
    simp only [List.length_cons, List.length_nil]
    omega
theorem tagE_le4 {l : List UInt8} {L : List Tk} {q : Bool × List Tk × List UInt8} (hL : L.length ≤ 4096) (h : tagE l L = some q) : q.2.1.length ≤ 4096 := by
  unfold tagE at h
  split at h
  · injection h with h; rw [← h]; exact hL
  · obtain ⟨x, hx, rfl⟩ := Option.map_eq_some_iff.1 h
    exact tellS_le4 hL hx
theorem rawS_le4 {k : Int} {nm l : List UInt8} {L : List Tk} {q : Bool × List Tk × List UInt8} (hL : L.length ≤ 4096) (h : rawS k nm l L = some q) : q.2.1.length ≤ 4096 := by
  unfold rawS at h
  split at h
  · obtain ⟨x, hx, rfl⟩ := Option.map_eq_some_iff.1 h
    exact toldS_le hL hx
  · obtain ⟨x, hx, h⟩ := Option.bind_eq_some_iff.1 h
    exact tagE_le4 (toldS_le hL hx) h
theorem tagS_le4 {l : List UInt8} {L : List Tk} {q : Bool × List Tk × List UInt8} (hL : L.length ≤ 4096) (h : tagS l L = some q) : q.2.1.length ≤ 4096 := by
  unfold tagS at h
  split at h
  · injection h with h; rw [← h]; exact hL
  · obtain ⟨x, hx, h⟩ := Option.bind_eq_some_iff.1 h
    split at h
    · injection h with h; rw [← h]; exact tellS_le4 hL hx
    · exact rawS_le4 (tellS_le4 hL hx) h
theorem bangS_le4 {l : List UInt8} {L : List Tk} {q : List Tk × List UInt8} (hL : L.length ≤ 4096) (h : bangS l L = some q) : q.1.length ≤ 4096 := by
  unfold bangS at h
  split at h
  · split at h
    · obtain ⟨x, hx, rfl⟩ := Option.map_eq_some_iff.1 h
      exact tellS_le4 hL hx
    · obtain ⟨x, hx, rfl⟩ := Option.map_eq_some_iff.1 h
      exact tellS_le4 hL hx
  · injection h with h; rw [← h]; exact hL
theorem markS_le4 {l : List UInt8} {L : List Tk} {q : Bool × List Tk × List UInt8} (hL : L.length ≤ 4096) (h : markS l L = some q) : q.2.1.length ≤ 4096 := by
  match l with
  | [] => injection h with h; rw [← h]; exact hL
  | [_] => injection h with h; rw [← h]; exact hL
  | x0 :: c :: t =>
    rw [markS_cons] at h
    split at h
    · exact tagS_le4 hL h
    · split at h
      · obtain ⟨x, hx, rfl⟩ := Option.map_eq_some_iff.1 h
        exact bangS_le4 hL hx
      · split at h
        · injection h with h; rw [← h]; exact hL
        · match t with
          | [] => injection h with h; rw [← h]; exact hL
          | d :: t' =>
            simp only at h
            split at h
            · exact tagE_le4 hL h
            · split at h <;> (injection h with h; rw [← h]; exact hL)
theorem data_run : ∀ (n : Nat) (l t : List UInt8) (L : List Tk) (b : Mc), l.length ≤ n → L.length ≤ 4096 → Agr (tokX t l L) (oE (dm b t L) l) ∧ ∀ L', tokX t l L = some L' → L'.length ≤ 4096 := by
  intro n
  induction n with
  | zero =>
    intro l t L b hl hL
    obtain rfl : l = [] := List.eq_nil_of_length_eq_zero (by omega)
    have e : tokX t [] L = toldS t true L := by
      unfold tokX
      rw [show ([] : List UInt8).take (scanN []) = [] from rfl, List.append_nil]
      cases toldS t true L <;> rfl
    rw [e]
    exact ⟨told_agr t true L hL, fun L' h => toldS_le hL h⟩
  | succ n ih =>
    intro l t L b hl hL
    cases l with
    | nil =>
      have e : tokX t [] L = toldS t true L := by
        unfold tokX
        rw [show ([] : List UInt8).take (scanN []) = [] from rfl, List.append_nil]
        cases toldS t true L <;> rfl
      rw [e]
      exact ⟨told_agr t true L hL, fun L' h => toldS_le hL h⟩
    | cons c r =>
      have hs := oE_out (m := dm b t L) (c := c) (r := r) rfl rfl
      by_cases hop : c = 60 ∧ opensB r = true
      · obtain ⟨rfl, ho⟩ := hop
        have h0 : scanN (60 :: r) = 0 := by rw [scanN, if_pos ⟨rfl, ho⟩]
        have e : mOut (dm b t L) 60 r = ({ mText (dm b t L) true with st := 1 }, 1) := by
          show (if (60 : UInt8) = 60 ∧ dataOpen r = true then _ else _) = _
          rw [if_pos ⟨rfl, by rw [data_same]; exact ho⟩]
        rw [e] at hs
        have ex : tokX t (60 :: r) L = (toldS t true L).bind fun L1 => goOn (markS (60 :: r) L1) := by
          unfold tokX
          rw [h0, List.take_zero, List.append_nil, List.drop_zero]
          cases toldS t true L <;> rfl
        rw [ex]
        have ha := told_agr t true L hL
        have hs2 : oE (dm b t L) (60 :: r) = oE { mText (dm b t L) true with st := 1 } r := hs
        cases ht : toldS t true L with
        | none =>
          rw [ht] at ha
          refine ⟨?_, fun L' h => by cases h⟩
          show 4096 < (oE (dm b t L) (60 :: r)).length
          rw [hs2]
          refine Nat.lt_of_lt_of_le ?_ (oE_more _ _)
          exact ha
        | some L1 =>
          rw [ht] at ha
          have hL1 := toldS_le hL ht
          have hout : ({ mText (dm b t L) true with st := 1 } : Mc).out = L1 := ha
          rw [Option.bind_some]
          cases r with
          | nil => cases ho
          | cons d r' =>
            have hm := mark_run { mText (dm b t L) true with st := 1 } d r' L1 rfl rfl hout hL1 ho
            cases hk : markS (60 :: d :: r') L1 with
            | none =>
              rw [hk] at hm
              refine ⟨?_, fun L' h => by cases h⟩
              show 4096 < (oE (dm b t L) (60 :: d :: r')).length
              rw [hs2]; exact hm
            | some q =>
              rw [hk] at hm
              have hq := markS_le4 hL1 hk
              have hlt := markS_lt _ _ _ (by simp) hk
              obtain ⟨bb, L2, r2⟩ := q
              cases bb with
              | false =>
                refine ⟨hs2.trans hm, fun L' h => ?_⟩
                have : L2 = L' := by injection h
                rw [← this]; exact hq
              | true =>
                obtain ⟨b', hb'⟩ := hm
                have h2 := ih r2 [] L2 b' (by simp only at hlt; simp only [List.length_cons] at hlt hl; omega) hq
                rw [tokX_tok] at h2
                rw [hs2, hb']
                exact h2
      · have e : mOut (dm b t L) c r = (dm b (t ++ [c]) L, 1) := by
          show (if c = 60 ∧ dataOpen r = true then _ else _) = _
          rw [if_neg (by rw [data_same]; exact hop)]
          rfl
        rw [e] at hs
        have hsc : scanN (c :: r) = scanN r + 1 := by rw [scanN, if_neg hop]
        have ex : tokX t (c :: r) L = tokX (t ++ [c]) r L := by
          unfold tokX
          rw [hsc, List.take_succ_cons, List.drop_succ_cons, List.append_assoc, List.singleton_append]
        have hs2 : oE (dm b t L) (c :: r) = oE (dm b (t ++ [c]) L) r := hs
        rw [ex, hs2]
        exact ih r (t ++ [c]) L b (by simp only [List.length_cons] at hl; omega) hL
/-- the reference's reader, octet by octet, answers as the program's -/
theorem refT_toks (s : List UInt8) : refT s = toks s := by
  have h := data_run s.length s [] [] mc0 (Nat.le_refl _) (by simp)
  rw [tokX_tok] at h
  have e : dm mc0 [] [] = mc0 := rfl
  rw [e] at h
  rw [refT_go]
  unfold toks
  by_cases hl : s.length ≤ 65536
  · rw [if_neg (by omega), if_pos hl]
    cases ht : tokT s [] with
    | none =>
      rw [ht] at h
      have h1 : 4096 < (mGo mc0 s).out.length := h.1
      rw [if_pos h1]
    | some L =>
      rw [ht] at h
      have h1 : (mGo mc0 s).out = L := h.1
      have h2 := h.2 L rfl
      rw [h1, if_neg (by omega)]
  · rw [if_pos (by omega), if_neg hl]
end Go.Proofs.Ytihgmgpcdodknaa
