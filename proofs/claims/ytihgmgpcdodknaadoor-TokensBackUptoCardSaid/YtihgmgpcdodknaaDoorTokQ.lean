/- Plain: what the tokens of some texts are (an escaped text; one within quotes; a raw text). No program in sight. -/
import Derived.Test.YtihgmgpcdodknaaDoorTokP
set_option linter.unusedVariables false
namespace Go.Proofs.YtihgmgpcdodknaaDoor
open Go.RowKit

theorem scan_all : ∀ (l : List UInt8), (60 : UInt8) ∉ l → scanN l = l.length
  | [], _ => rfl
  | c :: r, h => by
    rw [List.mem_cons, not_or] at h
    rw [scanN, if_neg (fun e => h.1 e.1.symm), scan_all r h.2, List.length_cons]
theorem scan_more : ∀ (l r : List UInt8), (60 : UInt8) ∉ l → scanN (l ++ r) = l.length + scanN r
  | [], r, _ => by simp
  | c :: t, r, h => by
    rw [List.mem_cons, not_or] at h
    rw [List.cons_append, scanN, if_neg (fun e => h.1 e.1.symm), scan_more t r h.2, List.length_cons]; omega
theorem tok_text (l : List UInt8) (L : List Tk) (h : (60 : UInt8) ∉ l) : tokT l L = toldS l true L := by
  cases e : toldS l true L with
  | none =>
    by_cases h0 : l = []
    · subst h0
      unfold toldS at e
      rw [if_pos (show (if true = true then decL [] else []) = [] from rfl)] at e
      cases e
    · exact tokT_none l L h0 (by rw [scan_all l h, List.take_length]; exact e)
  | some L1 => exact tokT_end l L L1 (by rw [scan_all l h, List.take_length]; exact e) (by rw [scan_all l h, List.drop_length])
theorem told_cons (l : List UInt8) (d : Bool) (L : List Tk) (hL : L.length < 4096) : toldS l d L = some (if (if d then decL l else l) = [] then L else L ++ [⟨3, [], if d then decL l else l, [], false⟩]) := by
  have h0 : ¬ L.length = 4096 := by omega
  unfold toldS tellS
  by_cases h : (if d = true then decL l else l) = []
  · rw [if_pos h, if_pos h]
  · rw [if_neg h, if_neg h, if_neg h0]
theorem toks_plain (l : List UInt8) (h : (60 : UInt8) ∉ l) (hl : l.length ≤ 65536) : toks l = (if decL l = [] then [] else [⟨3, [], decL l, [], false⟩], 0) := by
  unfold toks
  rw [if_pos hl, tok_text l [] h, told_cons _ _ _ (by decide)]
  rfl
theorem toks_long (l : List UInt8) (hl : ¬ l.length ≤ 65536) : toks l = ([], 5) := by
  unfold toks; rw [if_neg hl]
/-- on, behind markup -/
def goOn : Res → Option (List Tk)
  | none => none
  | some (false, L2, _) => some L2
  | some (true, L2, r') => tokT r' L2
theorem tokT_mark' (l : List UInt8) (L L1 : List Tk) (h : toldS (l.take (scanN l)) true L = some L1) (he : l.drop (scanN l) ≠ []) : tokT l L = goOn (markS (l.drop (scanN l)) L1) := by
  rw [tokT_mark l L L1 h he]
  cases markS (l.drop (scanN l)) L1 with
  | none => rfl
  | some x =>
    obtain ⟨b, L2, r'⟩ := x
    cases b <;> rfl
/-- a text, then markup -/
theorem tok_textmark (l r : List UInt8) (c : UInt8) (L L1 : List Tk) (h : (60 : UInt8) ∉ l) (ho : opensB (c :: r) = true) (hL : L.length < 4096) (hL1 : L1 = if decL l = [] then L else L ++ [⟨3, [], decL l, [], false⟩]) :
    tokT (l ++ 60 :: c :: r) L = goOn (markS (60 :: c :: r) L1) := by
  have hs : scanN (l ++ 60 :: c :: r) = l.length := by
    rw [scan_more _ _ h, scanN, if_pos ⟨rfl, ho⟩, Nat.add_zero]
  have := tokT_mark' (l ++ 60 :: c :: r) L L1 (by rw [hs, List.take_left, told_cons _ _ _ hL, hL1]; rfl) (by rw [hs, List.drop_left]; simp)
  rw [this, hs, List.drop_left]
theorem tell_some (t : Tk) (L : List Tk) (h : L.length < 4096) : tellS t L = some (L ++ [t]) := by unfold tellS; rw [if_neg (by omega)]
theorem names_stop (nm r : List UInt8) (c : UInt8) (h : nm.all nameC = true) (hc : nameC c = false) : (nm ++ c :: r).takeWhile nameC = nm ∧ (nm ++ c :: r).dropWhile nameC = c :: r := by
  induction nm with
  | nil => simp [hc]
  | cons a t ih =>
    rw [List.all_cons, Bool.and_eq_true] at h
    have := ih h.2
    simp [h.1, this.1, this.2]
theorem at_end (r : List UInt8) (as : List Att) : atT .bef (62 :: r) as = some (as, false, r) := atT_done rfl
/-- a start tag without attributes -/
theorem mark_start (nm r : List UInt8) (L : List Tk) (a : UInt8) (t : List UInt8) (hnm : nm = a :: t) (ha : isLetter a = true) (h : nm.all nameC = true) (hL : L.length < 4096) :
    markS (60 :: (nm ++ 62 :: r)) L = if elemK (low nm) < 1 ∨ 3 < elemK (low nm) then some (true, L ++ [⟨1, low nm, [], [], false⟩], r) else rawS (elemK (low nm)) (low nm) r (L ++ [⟨1, low nm, [], [], false⟩]) := by
  have hc := names_stop nm r 62 h rfl
  subst hnm
  rw [List.cons_append, markS_cons, if_pos ha]
  unfold tagS
  rw [← List.cons_append, hc.1, hc.2, at_end]
  simp only [tell_some _ _ hL, Option.bind_some]
theorem tag_end (nm r : List UInt8) (L : List Tk) (h : nm.all nameC = true) (hL : L.length < 4096) : tagE (nm ++ 62 :: r) L = some (true, L ++ [⟨2, low nm, [], [], false⟩], r) := by
  have hc := names_stop nm r 62 h rfl
  unfold tagE
  rw [hc.1, hc.2, at_end]
  simp only [tell_some _ _ hL, Option.map_some]

/-! ### An escaped text within quotes -/
def preV : List UInt8 := [60, 98, 62, 120, 60, 112, 32, 97, 61, 34]
def postV : List UInt8 := [34, 32, 99, 62, 121]
theorem idx_skip : ∀ (e r : List UInt8) (c : UInt8), c ∉ e → Lib.indexByte (e ++ c :: r) c = (e.length : Int)
  | [], r, c, _ => by simp [Lib.indexByte]
  | a :: t, r, c, h => by
    rw [List.mem_cons, not_or] at h
    have ih := idx_skip t r c h.2
    rw [List.cons_append, Lib.indexByte, ih]
    have h1 : (a == c) = false := by simpa using fun e => h.1 e.symm
    have h2 : ((t.length : Int) == -1) = false := by rw [beq_eq_false_iff_ne]; omega
    simp only [h1, h2, Bool.false_eq_true, if_false, List.length_cons]
    push_cast; rfl
theorem toks_values (e : List UInt8) (h : (34 : UInt8) ∉ e) (hl : (preV ++ e ++ postV).length ≤ 65536) :
    toks (preV ++ e ++ postV) = ([⟨1, [98], [], [], false⟩, ⟨3, [], [120], [], false⟩, ⟨1, [112], [], [([97], decL e), ([99], [])], false⟩, ⟨3, [], [121], [], false⟩], 0) := by
  unfold toks
  rw [if_pos hl]
  have e1 : preV ++ e ++ postV = [] ++ 60 :: 98 :: 62 :: ([120] ++ 60 :: 112 :: 32 :: 97 :: 61 :: 34 :: (e ++ 34 :: [32, 99, 62, 121])) := by simp [preV, postV]
  have s1 := tok_textmark [] (62 :: ([120] ++ 60 :: 112 :: 32 :: 97 :: 61 :: 34 :: (e ++ 34 :: [32, 99, 62, 121]))) 98 [] [] (by simp) (by rfl) (by decide) rfl
  have m1 := mark_start [98] ([120] ++ 60 :: 112 :: 32 :: 97 :: 61 :: 34 :: (e ++ 34 :: [32, 99, 62, 121])) [] 98 [] rfl (by decide) (by decide) (by decide)
  rw [if_pos (by decide)] at m1
  rw [List.singleton_append] at m1 s1
  have s2 := tok_textmark [120] (32 :: 97 :: 61 :: 34 :: (e ++ 34 :: [32, 99, 62, 121])) 112 [⟨1, [98], [], [], false⟩] [⟨1, [98], [], [], false⟩, ⟨3, [], [120], [], false⟩] (by decide) (by rfl) (by decide) rfl
  have a0 : atT .bef (32 :: 97 :: 61 :: 34 :: (e ++ 34 :: [32, 99, 62, 121])) [] = some ([([97], decL e), ([99], [])], false, [121]) := by
    rw [atT_go (st' := .bef) (l' := 97 :: 61 :: 34 :: (e ++ 34 :: [32, 99, 62, 121])) (as' := []) rfl]
    rw [atT_go (st' := .nam [97]) (l' := 61 :: 34 :: (e ++ 34 :: [32, 99, 62, 121])) (as' := []) rfl]
    rw [atT_go (st' := .wan [97]) (l' := 34 :: (e ++ 34 :: [32, 99, 62, 121])) (as' := []) rfl]
    have hw : atStep (.wan [97]) (34 :: (e ++ 34 :: [32, 99, 62, 121])) [] = .go .bef ([32, 99, 62, 121]) [([97], decL e)] := by
      simp only [atStep]
      rw [if_neg (by decide), if_neg (by decide), if_pos (by decide), idx_skip e _ 34 h, if_neg (by omega)]
      rw [Int.toNat_natCast, List.take_left, ← List.drop_drop, List.drop_left]
      rfl
    rw [atT_go hw]
    rw [atT_go (st' := .bef) (l' := [99, 62, 121]) (as' := [([97], decL e)]) rfl]
    rw [atT_go (st' := .nam [99]) (l' := [62, 121]) (as' := [([97], decL e)]) rfl]
    rw [atT_go (st' := .bef) (l' := [62, 121]) (as' := [([97], decL e), ([99], [])]) rfl]
    exact atT_done rfl
  have m2 : markS (60 :: 112 :: 32 :: 97 :: 61 :: 34 :: (e ++ 34 :: [32, 99, 62, 121])) [⟨1, [98], [], [], false⟩, ⟨3, [], [120], [], false⟩] = some (true, [⟨1, [98], [], [], false⟩, ⟨3, [], [120], [], false⟩, ⟨1, [112], [], [([97], decL e), ([99], [])], false⟩], [121]) := by
    rw [markS_cons, if_pos (by decide)]
    unfold tagS
    rw [show (112 :: 32 :: 97 :: 61 :: 34 :: (e ++ 34 :: [32, 99, 62, 121])).dropWhile nameC = 32 :: 97 :: 61 :: 34 :: (e ++ 34 :: [32, 99, 62, 121]) from rfl]
    rw [show (112 :: 32 :: 97 :: 61 :: 34 :: (e ++ 34 :: [32, 99, 62, 121])).takeWhile nameC = [112] from rfl]
    rw [a0]
    rfl
  rw [e1, List.singleton_append, s1]
  erw [m1]
  show (match tokT (120 :: 60 :: 112 :: 32 :: 97 :: 61 :: 34 :: (e ++ 34 :: [32, 99, 62, 121])) [⟨1, [98], [], [], false⟩] with | none => ([], (3 : Int)) | some L => (L, 0)) = _
  rw [List.singleton_append] at s2
  rw [s2, m2]
  simp only [goOn]
  rw [tok_text _ _ (by decide), told_cons _ _ _ (by simp)]
  rfl

/-! ### A raw text -/
theorem low_len (l : List UInt8) : (low l).length = l.length := by simp [low]
theorem raw_none : ∀ (nm s r : List UInt8), (∀ i, i < s.length → (s.drop i)[0]? = some 60 → endsB nm (s.drop i ++ r) = false) → rawN nm (s ++ r) = (rawN nm r).map (· + s.length)
  | nm, [], r, _ => by simp
  | nm, c :: t, r, h => by
    rw [List.cons_append, rawN, if_neg]
    · rw [raw_none nm t r (fun i hi h0 => h (i + 1) (by simpa using hi) (by simpa using h0))]
      cases rawN nm r <;> simp [Nat.add_assoc]
    · rintro ⟨h1, h2⟩
      have := h 0 (by simp) (by simp [h1])
      rw [List.drop_zero, List.cons_append, h2] at this
      cases this
end Go.Proofs.YtihgmgpcdodknaaDoor
