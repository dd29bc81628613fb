/- Plain: the tokens of a text (package tokens), on lists of octets. No program in sight. -/
import Derived.Test.YtihgmgpcdodknaaRefsP
import Derived.Test.YtihgmgpcdodknaaCssP
import Derived.Lib.IndexLaws
set_option linter.unusedVariables false
namespace Go.Proofs.Ytihgmgpcdodknaa
open Go.RowKit

abbrev Att := List UInt8 × List UInt8
/-- a token -/
structure Tk where
  k : Int
  n : List UInt8
  x : List UInt8
  ats : List Att
  c : Bool

/-! ### The attributes of a tag -/
/-- where in a tag, behind its name: ahead of an attribute, in its name, behind that, behind =, behind / -/
inductive Sta where
  | bef
  | nam (n : List UInt8)
  | aft (n : List UInt8)
  | wan (n : List UInt8)
  | sla
/-- what comes of it -/
inductive Mov where
  | fail
  | done (as : List Att) (cl : Bool) (r : List UInt8)
  | go (st : Sta) (l : List UInt8) (as : List Att)
def bareC (c : UInt8) : Bool := !isBlank c && c != 62
def atStep : Sta → List UInt8 → List Att → Mov
  | _, [], _ => .fail
  | .bef, c :: r, as => if isBlank c then .go .bef r as else if c = 47 then .go .sla r as else if c = 62 then .done as false r else .go (.nam [lowB c]) r as
  | .nam n, c :: r, as => if isBlank c then .go (.aft n) r as else if c = 61 then .go (.wan n) r as else if c = 47 ∨ c = 62 then .go .bef (c :: r) (as ++ [(n, [])]) else .go (.nam (n ++ [lowB c])) r as
  | .aft n, c :: r, as => if isBlank c then .go (.aft n) r as else if c = 61 then .go (.wan n) r as else .go .bef (c :: r) (as ++ [(n, [])])
  | .wan n, c :: r, as => if isBlank c then .go (.wan n) r as else if c = 62 then .go .bef (c :: r) (as ++ [(n, [])])
    else if c = 34 ∨ c = 39 then (if Lib.indexByte r c < 0 then .fail else .go .bef (r.drop ((Lib.indexByte r c).toNat + 1)) (as ++ [(n, decL (r.take (Lib.indexByte r c).toNat))]))
    else (if (c :: r).dropWhile bareC = [] then .fail else .go .bef ((c :: r).dropWhile bareC) (as ++ [(n, decL ((c :: r).takeWhile bareC))]))
  | .sla, c :: r, as => if c = 62 then .done as true r else .go .bef (c :: r) as
def wtS : Sta → List UInt8 → Nat
  | .bef, l => 2 * l.length
  | _, l => 2 * l.length + 1
theorem dropW_le (p : UInt8 → Bool) (l : List UInt8) : (l.dropWhile p).length ≤ l.length := (List.dropWhile_sublist p).length_le
theorem atStep_lt (st : Sta) (l : List UInt8) (as : List Att) (st' : Sta) (l' : List UInt8) (as' : List Att) (h : atStep st l as = .go st' l' as') : wtS st' l' < wtS st l := by
  cases l with
  | nil => cases st <;> cases h
  | cons c r =>
    cases st with
    | bef =>
      simp only [atStep] at h
      split at h
      · cases h; simp only [wtS, List.length_cons]; omega
      · split at h
        · cases h; simp only [wtS, List.length_cons]; omega
        · split at h
          · cases h
          · cases h; simp only [wtS, List.length_cons]; omega
    | nam n =>
      simp only [atStep] at h
      split at h
      · cases h; simp only [wtS, List.length_cons]; omega
      · split at h
        · cases h; simp only [wtS, List.length_cons]; omega
        · split at h <;> (cases h; simp only [wtS, List.length_cons]; omega)
    | aft n =>
      simp only [atStep] at h
      split at h
      · cases h; simp only [wtS, List.length_cons]; omega
      · split at h <;> (cases h; simp only [wtS, List.length_cons]; omega)
    | wan n =>
      simp only [atStep] at h
      split at h
      · cases h; simp only [wtS, List.length_cons]; omega
      · split at h
        · cases h; simp only [wtS, List.length_cons]; omega
        · split at h
          · split at h
            · cases h
            · cases h; simp only [wtS, List.length_drop, List.length_cons]; omega
          · split at h
            · cases h
            · cases h
              have := dropW_le bareC (c :: r)
              simp only [wtS] at this ⊢
              omega
    | sla =>
      simp only [atStep] at h
      split at h <;> cases h
      simp only [wtS, List.length_cons]; omega
def atR : Nat → Sta → List UInt8 → List Att → Option (List Att × Bool × List UInt8)
  | 0, _, _, _ => none
  | f + 1, st, l, as => match atStep st l as with
    | .fail => none
    | .done as cl r => some (as, cl, r)
    | .go st l as => atR f st l as
theorem atR_more : ∀ (f g : Nat) (st : Sta) (l : List UInt8) (as : List Att), wtS st l < f → wtS st l < g → atR f st l as = atR g st l as := by
  intro f
  induction f with
  | zero => intro g st l as h; omega
  | succ f ih =>
    intro g st l as h1 h2
    cases g with
    | zero => omega
    | succ g =>
      unfold atR
      cases h : atStep st l as with
      | fail => rfl
      | done as cl r => rfl
      | go st' l' as' =>
        have := atStep_lt st l as st' l' as' h
        exact ih g st' l' as' (by omega) (by omega)
/-- the attributes from here on, whether the tag is closed, what stands behind it; none: it does not end -/
def atT (st : Sta) (l : List UInt8) (as : List Att) : Option (List Att × Bool × List UInt8) := atR (wtS st l + 1) st l as
theorem atT_fail {st : Sta} {l : List UInt8} {as : List Att} (h : atStep st l as = .fail) : atT st l as = none := by unfold atT atR; rw [h]
theorem atT_done {st : Sta} {l : List UInt8} {as : List Att} {as' : List Att} {cl : Bool} {r : List UInt8} (h : atStep st l as = .done as' cl r) : atT st l as = some (as', cl, r) := by unfold atT atR; rw [h]
theorem atT_go {st st' : Sta} {l l' : List UInt8} {as as' : List Att} (h : atStep st l as = .go st' l' as') : atT st l as = atT st' l' as' := by
  have hlt := atStep_lt _ _ _ _ _ _ h
  unfold atT
  rw [atR, h]
  exact atR_more _ _ _ _ _ (by omega) (by omega)
theorem atT_le : ∀ (m : Nat) (st : Sta) (l : List UInt8) (as : List Att), wtS st l ≤ m → ∀ r, atT st l as = some r → r.2.2.length ≤ l.length := by
  intro m
  induction m with
  | zero =>
    intro st l as hm r h
    cases hs : atStep st l as with
    | fail => rw [atT_fail hs] at h; cases h
    | done as' cl r' =>
      rw [atT_done hs] at h
      cases h
      cases l with
      | nil => cases st <;> cases hs
      | cons c t => cases st <;> simp [wtS] at hm
    | go st' l' as' => have := atStep_lt _ _ _ _ _ _ hs; omega
  | succ m ih =>
    intro st l as hm r h
    cases hs : atStep st l as with
    | fail => rw [atT_fail hs] at h; cases h
    | done as' cl r' =>
      rw [atT_done hs] at h
      cases h
      simp only
      cases l with
      | nil => cases st <;> cases hs
      | cons c t =>
        cases st with
        | bef =>
          simp only [atStep] at hs
          split at hs
          · cases hs
          · split at hs
            · cases hs
            · split at hs
              · cases hs; simp
              · cases hs
        | nam n => simp only [atStep] at hs; split at hs <;> try cases hs
                   split at hs <;> try cases hs
                   split at hs <;> cases hs
        | aft n => simp only [atStep] at hs; split at hs <;> try cases hs
                   split at hs <;> cases hs
        | wan n =>
          simp only [atStep] at hs
          split at hs
          · cases hs
          · split at hs
            · cases hs
            · split at hs
              · split at hs <;> cases hs
              · split at hs <;> cases hs
        | sla => simp only [atStep] at hs
                 split at hs <;> cases hs
                 simp
    | go st' l' as' =>
      have hlt := atStep_lt _ _ _ _ _ _ hs
      rw [atT_go hs] at h
      have := ih st' l' as' (by omega) r h
      have : l'.length ≤ l.length := by
        cases st' <;> cases st <;> simp only [wtS] at hlt <;> omega
      omega

/-! ### The reader -/
def tellS (t : Tk) (L : List Tk) : Option (List Tk) := if L.length = 4096 then none else some (L ++ [t])
def toldS (x : List UInt8) (d : Bool) (L : List Tk) : Option (List Tk) :=
  if (if d then decL x else x) = [] then some L else tellS ⟨3, [], if d then decL x else x, [], false⟩ L
/-- none: too many; else: does it go on, the tokens, what is left -/
abbrev Res := Option (Bool × List Tk × List UInt8)
def nameC (c : UInt8) : Bool := !isBlank c && c != 47 && c != 62
def tagE (l : List UInt8) (L : List Tk) : Res :=
  match atT .bef (l.dropWhile nameC) [] with
  | none => some (false, L, [])
  | some (_, _, r) => (tellS ⟨2, low (l.takeWhile nameC), [], [], false⟩ L).map (true, ·, r)
def sTitle : List UInt8 := [116, 105, 116, 108, 101]
def sArea : List UInt8 := [116, 101, 120, 116, 97, 114, 101, 97]
def sStyle : List UInt8 := [115, 116, 121, 108, 101]
def sScript : List UInt8 := [115, 99, 114, 105, 112, 116]
def sBarred : List (List UInt8) := [[112, 108, 97, 105, 110, 116, 101, 120, 116], [120, 109, 112], [105, 102, 114, 97, 109, 101], [110, 111, 101, 109, 98, 101, 100], [110, 111, 102, 114, 97, 109, 101, 115], [110, 111, 115, 99, 114, 105, 112, 116]]
def elemK (n : List UInt8) : Int := if n = sTitle ∨ n = sArea then 1 else if n = sStyle then 2 else if n = sScript then 3 else if n ∈ sBarred then 4 else 0
def startsB (l p : List UInt8) : Bool := decide (p.length ≤ l.length) && low (l.take p.length) == low p
def endC (c : UInt8) : Bool := isBlank c || c == 47 || c == 62
def endsB (nm l : List UInt8) : Bool := startsB l (60 :: 47 :: nm) && (match l[nm.length + 2]? with | some c => endC c | none => false)
/-- where a raw text ends -/
def rawN (nm : List UInt8) : List UInt8 → Option Nat
  | [] => none
  | c :: r => if c = 60 ∧ endsB nm (c :: r) = true then some 0 else (rawN nm r).map (· + 1)
def rawS (k : Int) (nm l : List UInt8) (L : List Tk) : Res :=
  match rawN nm l with
  | none => (toldS l (k == 1) L).map (true, ·, [])
  | some j => (toldS (l.take j) (k == 1) L).bind (tagE (l.drop (j + 2)))
def tagS (l : List UInt8) (L : List Tk) : Res :=
  match atT .bef (l.dropWhile nameC) [] with
  | none => some (false, L, [])
  | some (as, cl, r) => (tellS ⟨1, low (l.takeWhile nameC), [], as, cl⟩ L).bind fun L =>
    if elemK (low (l.takeWhile nameC)) < 1 ∨ 3 < elemK (low (l.takeWhile nameC)) then some (true, L, r) else rawS (elemK (low (l.takeWhile nameC))) (low (l.takeWhile nameC)) r L
def bogusS (l : List UInt8) : List UInt8 := if Lib.indexByte l 62 < 0 then [] else l.drop ((Lib.indexByte l 62).toNat + 1)
def bangS (l : List UInt8) (L : List Tk) : Option (List Tk × List UInt8) :=
  if [45, 45].isPrefixOf l then
    (if Lib.index (l.drop 2) [45, 45, 62] < 0 then (tellS ⟨4, [], l.drop 2, [], false⟩ L).map (·, [])
     else (tellS ⟨4, [], (l.drop 2).take (Lib.index (l.drop 2) [45, 45, 62]).toNat, [], false⟩ L).map (·, (l.drop 2).drop ((Lib.index (l.drop 2) [45, 45, 62]).toNat + 3)))
  else some (L, bogusS l)
/-- behind < : is it no text? -/
def opensB : List UInt8 → Bool
  | [] => false
  | c :: r => if c = 47 ∧ r = [] then false else c == 47 || c == 33 || c == 63 || isLetter c
/-- from < on -/
def markS : List UInt8 → List Tk → Res
  | _ :: c :: r, L =>
    if isLetter c then tagS (c :: r) L
    else if c = 33 then (bangS r L).map fun p => (true, p.1, p.2)
    else if c = 63 then some (true, L, bogusS (c :: r))
    else match r with
      | [] => some (true, L, [])
      | d :: r' => if isLetter d then tagE (d :: r') L else if d = 62 then some (true, L, r') else some (true, L, bogusS (d :: r'))
  | _, L => some (true, L, [])
theorem markS_cons (h c : UInt8) (r : List UInt8) (L : List Tk) : markS (h :: c :: r) L =
    if isLetter c then tagS (c :: r) L
    else if c = 33 then (bangS r L).map fun p => (true, p.1, p.2)
    else if c = 63 then some (true, L, bogusS (c :: r))
    else match r with
      | [] => some (true, L, [])
      | d :: r' => if isLetter d then tagE (d :: r') L else if d = 62 then some (true, L, r') else some (true, L, bogusS (d :: r')) := rfl
/-- so much text -/
def scanN : List UInt8 → Nat
  | [] => 0
  | c :: r => if c = 60 ∧ opensB r = true then 0 else scanN r + 1
theorem scanN_le : ∀ l : List UInt8, scanN l ≤ l.length
  | [] => Nat.le_refl _
  | c :: r => by
    have := scanN_le r
    rw [scanN, List.length_cons]
    split <;> omega
theorem tagE_le (l : List UInt8) (L : List Tk) (r : Bool × List Tk × List UInt8) (h : tagE l L = some r) : r.2.2.length ≤ l.length := by
  unfold tagE at h
  split at h
  · cases h; simp
  · rename_i as cl r' he
    have h1 := atT_le _ _ _ _ (Nat.le_refl _) _ he
    have h2 := dropW_le nameC l
    unfold tellS at h
    split at h <;> cases h
    simp only at h1 ⊢
    omega
theorem rawS_le (k : Int) (nm l : List UInt8) (L : List Tk) (r : Bool × List Tk × List UInt8) (h : rawS k nm l L = some r) : r.2.2.length ≤ l.length := by
  unfold rawS at h
  split at h
  · obtain ⟨x, _, rfl⟩ := Option.map_eq_some_iff.1 h
    simp
  · obtain ⟨x, _, h⟩ := Option.bind_eq_some_iff.1 h
    have := tagE_le _ _ _ h
    rw [List.length_drop] at this
    omega
theorem tagS_le (l : List UInt8) (L : List Tk) (r : Bool × List Tk × List UInt8) (h : tagS l L = some r) : r.2.2.length ≤ l.length := by
  unfold tagS at h
  split at h
  · cases h; simp
  · rename_i as cl r' he
    have h1 := atT_le _ _ _ _ (Nat.le_refl _) _ he
    have h2 := dropW_le nameC l
    simp only at h1
    obtain ⟨x, _, h⟩ := Option.bind_eq_some_iff.1 h
    split at h
    · cases h; simp only; omega
    · have := rawS_le _ _ _ _ _ h
      omega
theorem bogusS_le (l : List UInt8) : (bogusS l).length ≤ l.length := by
  unfold bogusS
  split
  · simp
  · rw [List.length_drop]; omega
theorem bangS_le (l : List UInt8) (L : List Tk) (r : List Tk × List UInt8) (h : bangS l L = some r) : r.2.length ≤ l.length := by
  unfold bangS at h
  split at h
  · split at h
    · obtain ⟨x, _, rfl⟩ := Option.map_eq_some_iff.1 h
      simp
    · obtain ⟨x, _, rfl⟩ := Option.map_eq_some_iff.1 h
      simp only [List.length_drop]; omega
  · cases h; exact bogusS_le l
theorem markS_lt (l : List UInt8) (L : List Tk) (r : Bool × List Tk × List UInt8) (hl : l ≠ []) (h : markS l L = some r) : r.2.2.length < l.length := by
  match l with
  | [] => exact absurd rfl hl
  | [_] => cases h; simp
  | x0 :: c :: t =>
    rw [markS_cons] at h
    split at h
    · have := tagS_le _ _ _ h
      simp only [List.length_cons] at this ⊢; omega
    · split at h
      · obtain ⟨x, hx, rfl⟩ := Option.map_eq_some_iff.1 h
        have := bangS_le _ _ _ hx
        simp only [List.length_cons]; omega
      · split at h
        · cases h
          have := bogusS_le (c :: t)
          simp only [List.length_cons] at this ⊢; omega
        · match t with
          | [] => cases h; simp
          | d :: t' =>
            simp only at h
            split at h
            · have := tagE_le _ _ _ h
              simp only [List.length_cons] at this ⊢; omega
            · split at h
              · cases h; simp only [List.length_cons]; omega
              · cases h
                have := bogusS_le (d :: t')
                simp only [List.length_cons] at this ⊢; omega
def tokG : Nat → List UInt8 → List Tk → Option (List Tk)
  | 0, _, L => some L
  | _, [], L => some L
  | f + 1, c :: r, L =>
    (toldS ((c :: r).take (scanN (c :: r))) true L).bind fun L1 =>
      if (c :: r).drop (scanN (c :: r)) = [] then some L1 else
      match markS ((c :: r).drop (scanN (c :: r))) L1 with
      | none => none
      | some (false, L2, _) => some L2
      | some (true, L2, r') => tokG f r' L2
theorem tokG_nil (f : Nat) (L : List Tk) : tokG f [] L = some L := by cases f <;> rfl
theorem tokG_more : ∀ (f g : Nat) (l : List UInt8) (L : List Tk), l.length ≤ f → l.length ≤ g → tokG f l L = tokG g l L := by
  intro f
  induction f with
  | zero =>
    intro g l L h1 h2
    obtain rfl : l = [] := List.eq_nil_of_length_eq_zero (by omega)
    rw [tokG_nil, tokG_nil]
  | succ f ih =>
    intro g l L h1 h2
    cases l with
    | nil => rw [tokG_nil, tokG_nil]
    | cons c r =>
      cases g with
      | zero => simp at h2
      | succ g =>
        unfold tokG
        congr 1
        funext L1
        split
        · rfl
        · rename_i hne
          cases hm : markS ((c :: r).drop (scanN (c :: r))) L1 with
          | none => rfl
          | some x =>
            obtain ⟨b, L2, r'⟩ := x
            have := markS_lt _ _ _ hne hm
            rw [List.length_drop] at this
            simp only at this
            cases b with
            | false => rfl
            | true => exact ih g r' L2 (by omega) (by omega)
/-- the tokens of what is left, behind those that were read; none: too many -/
def tokT (l : List UInt8) (L : List Tk) : Option (List Tk) := tokG l.length l L
theorem tokT_nil (L : List Tk) : tokT [] L = some L := rfl
theorem tokT_none (l : List UInt8) (L : List Tk) (hl : l ≠ []) (h : toldS (l.take (scanN l)) true L = none) : tokT l L = none := by
  cases l with
  | nil => exact absurd rfl hl
  | cons c r => unfold tokT; rw [List.length_cons, tokG, h]; rfl
theorem tokT_end (l : List UInt8) (L L1 : List Tk) (h : toldS (l.take (scanN l)) true L = some L1) (he : l.drop (scanN l) = []) : tokT l L = some L1 := by
  cases l with
  | nil =>
    rw [tokT_nil]
    unfold toldS at h
    rw [show ([] : List UInt8).take (scanN []) = [] from rfl] at h
    have e0 : decL [] = [] := rfl
    simp only [if_true, e0] at h
    exact h
  | cons c r => unfold tokT; rw [List.length_cons, tokG, h]; show (if _ then _ else _) = _; rw [if_pos he]
theorem tokT_mark (l : List UInt8) (L L1 : List Tk) (h : toldS (l.take (scanN l)) true L = some L1) (he : l.drop (scanN l) ≠ []) :
    tokT l L = match markS (l.drop (scanN l)) L1 with | none => none | some (false, L2, _) => some L2 | some (true, L2, r') => tokT r' L2 := by
  cases l with
  | nil => exact absurd rfl he
  | cons c r =>
    unfold tokT
    rw [List.length_cons, tokG, h]
    show (if _ then _ else _) = _
    rw [if_neg he]
    cases hm : markS ((c :: r).drop (scanN (c :: r))) L1 with
    | none => rfl
    | some x =>
      obtain ⟨b, L2, r'⟩ := x
      have := markS_lt _ _ _ he hm
      rw [List.length_drop, List.length_cons] at this
      simp only at this
      cases b with
      | false => rfl
      | true => exact tokG_more _ _ _ _ (by omega) (Nat.le_refl _)
/-- the tokens of a text, and an error -/
def toks (s : List UInt8) : List Tk × Int := if s.length ≤ 65536 then (match tokT s [] with | none => ([], 3) | some L => (L, 0)) else ([], 5)
end Go.Proofs.Ytihgmgpcdodknaa
