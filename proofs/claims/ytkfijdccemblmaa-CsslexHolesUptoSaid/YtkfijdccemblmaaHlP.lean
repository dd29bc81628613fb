/- Plain: a style's frame does not turn with the text that is told in it. No program in sight. -/
import Derived.Test.YtkfijdccemblmaaLexP
set_option linter.unusedVariables false
namespace Go.Proofs.Ytkfijdccemblmaa
open Go.RowKit

theorem oct_all {p : UInt8 → Prop} (h : ∀ k : Fin 256, p (UInt8.ofNat k.val)) (c : UInt8) : p c := by
  have := h ⟨c.toNat, c.toNat_lt⟩
  simpa using this
/-- is a piece one of the frame's? -/
def frK (k : Int) (x : List UInt8) : Bool := k == 2 || k == 3 || k == 4 || (k == 5 && match x with | [] => false | c :: _ => decide (0 ≤ Lib.indexByte [123, 125, 40, 41, 91, 93, 59, 58, 64, 92] c))
theorem frK_1 (x : List UInt8) : frK 1 x = false := rfl
theorem frK_sign (c : UInt8) (r : List UInt8) : frK 5 (c :: r) = decide (0 ≤ Lib.indexByte [123, 125, 40, 41, 91, 93, 59, 58, 64, 92] c) := rfl
abbrev Fr := Int × List UInt8
/-- the frame of a text, without positions, however many pieces it has; none: a fault -/
def frsR : Nat → List UInt8 → Option (List Fr)
  | 0, _ => some []
  | _, [] => some []
  | f + 1, c :: r =>
    if isBlank c then frsR f r else
    match (oneP (c :: r)).2 with
    | none => none
    | some n => (frsR f ((c :: r).drop n)).map fun F => if frK (oneP (c :: r)).1 ((c :: r).take n) then ((oneP (c :: r)).1, (c :: r).take n) :: F else F
theorem frsR_nil (f : Nat) : frsR f [] = some [] := by cases f <;> rfl
theorem frsR_more : ∀ (f g : Nat) (l : List UInt8), l.length ≤ f → l.length ≤ g → frsR f l = frsR g l := by
  intro f
  induction f with
  | zero =>
    intro g l h1 h2
    obtain rfl : l = [] := List.eq_nil_of_length_eq_zero (by omega)
    rw [frsR_nil, frsR_nil]
  | succ f ih =>
    intro g l h1 h2
    cases l with
    | nil => rw [frsR_nil, frsR_nil]
    | cons c r =>
      rw [List.length_cons] at h1 h2
      cases g with
      | zero => omega
      | succ g =>
        unfold frsR
        by_cases hb : isBlank c = true
        · rw [if_pos hb, if_pos hb]; exact ih g r (by omega) (by omega)
        · rw [if_neg hb, if_neg hb]
          cases hn : (oneP (c :: r)).2 with
          | none => rfl
          | some n =>
            have hle := oneP_le c r n hn
            simp only
            rw [ih g _ (by rw [List.length_drop, List.length_cons]; omega) (by rw [List.length_drop, List.length_cons]; omega)]
def frT (l : List UInt8) : Option (List Fr) := frsR l.length l
theorem frT_nil : frT [] = some [] := rfl
theorem frT_blank (c : UInt8) (r : List UInt8) (h : isBlank c = true) : frT (c :: r) = frT r := by
  unfold frT; rw [List.length_cons, frsR, if_pos h]
theorem frT_none (c : UInt8) (r : List UInt8) (h : isBlank c = false) (hn : (oneP (c :: r)).2 = none) : frT (c :: r) = none := by
  unfold frT; rw [List.length_cons, frsR, if_neg (by rw [h]; simp), hn]
theorem frT_some (c : UInt8) (r : List UInt8) (n : Nat) (h : isBlank c = false) (hn : (oneP (c :: r)).2 = some n) :
    frT (c :: r) = (frT ((c :: r).drop n)).map fun F => if frK (oneP (c :: r)).1 ((c :: r).take n) then ((oneP (c :: r)).1, (c :: r).take n) :: F else F := by
  have hle := oneP_le c r n hn
  unfold frT
  rw [List.length_cons, frsR, if_neg (by rw [h]; simp), hn]
  simp only
  rw [frsR_more _ ((c :: r).drop n).length _ (by rw [List.length_drop, List.length_cons]; omega) (Nat.le_refl _)]
/-- the frame of pieces -/
def frP (L : List Pc) : List Fr := (L.filter fun p => frK p.k p.x).map fun p => (p.k, p.x)
theorem frP_snoc (L : List Pc) (p : Pc) : frP (L ++ [p]) = frP L ++ (if frK p.k p.x then [(p.k, p.x)] else []) := by
  unfold frP
  rw [List.filter_append, List.map_append]
  congr 1
  cases h : frK p.k p.x <;> simp [h]
theorem pcsT_frT : ∀ (m : Nat) (l : List UInt8) (a : Nat) (acc : List Pc), l.length ≤ m →
    ((pcsT l a acc).2.2 = 0 ∧ ∃ F, frT l = some F ∧ frP (pcsT l a acc).1 = frP acc ++ F) ∨ ((pcsT l a acc).2.2 = 33 ∧ frT l = none) ∨ (pcsT l a acc).2.2 = 3 := by
  intro m
  induction m with
  | zero =>
    intro l a acc h
    obtain rfl : l = [] := List.eq_nil_of_length_eq_zero (by omega)
    exact .inl ⟨rfl, [], rfl, by rw [pcsT_nil, List.append_nil]⟩
  | succ m ih =>
    intro l a acc h
    cases l with
    | nil => exact .inl ⟨rfl, [], rfl, by rw [pcsT_nil, List.append_nil]⟩
    | cons c r =>
      rw [List.length_cons] at h
      cases hb : isBlank c with
      | true => rw [pcsT_blank c r a acc hb, frT_blank c r hb]; exact ih r (a + 1) acc (by omega)
      | false =>
        cases hn : (oneP (c :: r)).2 with
        | none => rw [pcsT_none c r a acc hb hn, frT_none c r hb hn]; exact .inr (.inl ⟨rfl, rfl⟩)
        | some n =>
          have hle := oneP_le c r n hn
          by_cases hf : acc.length < 4096
          · rw [pcsT_some c r a n acc hb hn hf, frT_some c r n hb hn]
            have := ih ((c :: r).drop n) (a + n) (acc ++ [⟨(oneP (c :: r)).1, (c :: r).take n, a⟩]) (by rw [List.length_drop, List.length_cons]; omega)
            rcases this with ⟨h1, F, h2, h3⟩ | ⟨h1, h2⟩ | h1
            · refine .inl ⟨h1, _, by rw [h2]; rfl, ?_⟩
              rw [h3, frP_snoc]
              simp only
              split <;> simp
            · exact .inr (.inl ⟨h1, by rw [h2]; rfl⟩)
            · exact .inr (.inr h1)
          · rw [pcsT_full c r a n acc hb hn hf]; exact .inr (.inr rfl)

/-! ### A word, and what is behind it -/
theorem wordy_blank (c : UInt8) (h : isWordy c = true) : isBlank c = false := by
  exact oct_all (p := fun c => isWordy c = true → isBlank c = false) (by decide +kernel) c h
theorem tw_all (w r : List UInt8) (h : w.all isWordy = true) : (w ++ r).takeWhile isWordy = w ++ r.takeWhile isWordy := by
  induction w with
  | nil => rfl
  | cons c w ih =>
    rw [List.all_cons, Bool.and_eq_true] at h
    rw [List.cons_append, List.takeWhile_cons, if_pos h.1, ih h.2]; rfl
theorem frT_word (w r : List UInt8) (h : w.all isWordy = true) (hr : r.takeWhile isWordy = []) (hn : ¬ (low w = [117, 114, 108] ∧ r.head? = some 40)) : frT (w ++ r) = frT r := by
  cases w with
  | nil => rfl
  | cons c w =>
    have hc : isWordy c = true := by rw [List.all_cons, Bool.and_eq_true] at h; exact h.1
    have htw : ((c :: w) ++ r).takeWhile isWordy = c :: w := by rw [tw_all _ _ h, hr, List.append_nil]
    have hone : oneP (c :: (w ++ r)) = (1, some (c :: w).length) := by
      rw [oneP_cons, if_pos hc]
      unfold namP
      have e : (c :: (w ++ r)).takeWhile isWordy = c :: w := htw
      rw [e, if_neg]
      rintro ⟨h1, h2⟩
      refine hn ⟨h1, ?_⟩
      rw [← List.cons_append, List.getElem?_append_right (Nat.le_refl _), Nat.sub_self] at h2
      rw [← h2]; cases r <;> rfl
    rw [List.cons_append, frT_some c (w ++ r) _ (wordy_blank c hc) (by rw [hone])]
    rw [hone]
    simp only [frK_1]
    rw [← List.cons_append, List.drop_left]
    simp
theorem low_all (w : List UInt8) : low w = w.map lowB := rfl
theorem frT_url (w r u : List UInt8) (h : w.all isWordy = true) (hl : low w = [117, 114, 108]) (hu : (41 : UInt8) ∉ u) : frT (w ++ 40 :: (u ++ 41 :: r)) = (frT r).map fun F => (4, w ++ 40 :: (u ++ [41])) :: F := by
  cases w with
  | nil => cases hl
  | cons c w =>
    have hc : isWordy c = true := by rw [List.all_cons, Bool.and_eq_true] at h; exact h.1
    have hidx : ∀ u : List UInt8, (41 : UInt8) ∉ u → idxO (u ++ 41 :: r) [41] = some u.length := by
      intro u
      induction u with
      | nil => intro _; rw [List.nil_append, idxO_cons]; simp
      | cons d u ih =>
        intro h
        rw [List.cons_append, idxO_cons, if_neg, ih (fun h' => h (List.mem_cons_of_mem _ h'))]
        · simp
        · have : (41 : UInt8) ≠ d := fun h' => h (h' ▸ List.mem_cons_self)
          simp [List.isPrefixOf, this]
    have htw : ((c :: w) ++ 40 :: (u ++ 41 :: r)).takeWhile isWordy = c :: w := by rw [tw_all _ _ h, List.takeWhile_cons, if_neg (by decide), List.append_nil]
    have hone : oneP (c :: (w ++ 40 :: (u ++ 41 :: r))) = (4, some (u.length + 1 + ((c :: w).length + 1))) := by
      rw [oneP_cons, if_pos hc]
      unfold namP
      have e : (c :: (w ++ 40 :: (u ++ 41 :: r))).takeWhile isWordy = c :: w := htw
      rw [e, if_pos ⟨hl, by rw [← List.cons_append, List.getElem?_append_right (Nat.le_refl _), Nat.sub_self]; rfl⟩]
      rw [← List.cons_append, List.drop_left, idxO_cons, if_neg (by simp [List.isPrefixOf]), hidx u hu]
      simp
    rw [List.cons_append, frT_some c _ _ (wordy_blank c hc) (by rw [hone]), hone]
    simp only
    have e1 : c :: (w ++ 40 :: (u ++ 41 :: r)) = ((c :: w) ++ 40 :: (u ++ [41])) ++ r := by simp
    have e2 : u.length + 1 + ((c :: w).length + 1) = ((c :: w) ++ 40 :: (u ++ [41])).length := by simp; omega
    rw [e1, e2, List.drop_left, List.take_left]
    congr 1
theorem frT_sign (c : UInt8) (r : List UInt8) (h1 : isWordy c = false) (h2 : ¬ (c = 34 ∨ c = 39)) (h3 : [47, 42].isPrefixOf (c :: r) = false) (h4 : c ≠ 92) (hb : isBlank c = false) :
    frT (c :: r) = (frT r).map fun F => (if frK 5 [c] then [((5 : Int), [c])] else []) ++ F := by
  have hone : oneP (c :: r) = (5, some 1) := by
    rw [oneP_cons, if_neg (by rw [h1]; simp), if_neg h2, if_neg (by rw [h3]; simp), if_neg (fun h => h4 h.1)]
  rw [frT_some c r 1 hb (by rw [hone]), hone]
  show (frT r).map _ = (frT r).map _
  congr 1
  funext F
  show (if frK 5 [c] then _ else _) = _
  cases frK 5 [c] <;> rfl

/-! ### The text that is told -/
theorem okCss_sign (c : UInt8) (h : okCss c = true) (hw : isWordy c = false) : c = 32 ∨ (isBlank c = false ∧ c ≠ 34 ∧ c ≠ 39 ∧ c ≠ 47 ∧ c ≠ 92 ∧ c ≠ 40 ∧ frK 5 [c] = false) := by
  exact oct_all (p := fun c => okCss c = true → isWordy c = false → c = 32 ∨ (isBlank c = false ∧ c ≠ 34 ∧ c ≠ 39 ∧ c ≠ 47 ∧ c ≠ 92 ∧ c ≠ 40 ∧ frK 5 [c] = false)) (by decide +kernel) c h hw
theorem frT_told : ∀ (x w : List UInt8), w.all isWordy = true → (∀ c ∈ x, okCss c = true) → ∃ w' : List UInt8, w'.all isWordy = true ∧ ∀ b, frT (w ++ (x ++ b)) = frT (w' ++ b)
  | [], w, hw, _ => ⟨w, hw, fun b => rfl⟩
  | c :: x, w, hw, hx => by
    cases hc : isWordy c with
    | true =>
      obtain ⟨w', h1, h2⟩ := frT_told x (w ++ [c]) (by rw [List.all_append, hw]; simp [hc]) fun d hd => hx d (List.mem_cons_of_mem _ hd)
      exact ⟨w', h1, fun b => by rw [← h2 b, List.append_assoc]; rfl⟩
    | false =>
      obtain ⟨w', h1, h2⟩ := frT_told x [] rfl fun d hd => hx d (List.mem_cons_of_mem _ hd)
      refine ⟨w', h1, fun b => ?_⟩
      rw [← h2 b, List.cons_append, List.nil_append]
      rcases okCss_sign c (hx c List.mem_cons_self) hc with rfl | ⟨hb, h34, h39, h47, h92, h40, hf⟩
      · rw [frT_word w _ hw (by rw [List.takeWhile_cons, if_neg (by decide)]) (by simp), frT_blank _ _ (by decide)]
      · have n47 : (47 : UInt8) ≠ c := fun h => h47 h.symm
        rw [frT_word w _ hw (by rw [List.takeWhile_cons, if_neg (by rw [hc]; simp)]) (by simp [h40]), frT_sign c _ hc (by simp [h34, h39]) (by simp [List.isPrefixOf, n47]) h92 hb, hf]
        simp

/-! ### Behind it -/
theorem cFeed_ask (c : UInt8) (r : List UInt8) (h : isWordy c = true) : cFeed 0 [63] (c :: r) = cFeed 0 [63] r := by
  rw [cFeed_cons]
  have e : cStep 0 [63] c = (0, [63]) := by unfold cStep cCode; rw [if_pos rfl, if_pos h, if_pos rfl]
  rw [e]
theorem frT_behind : ∀ (b w : List UInt8), w.all isWordy = true → (cFeed 0 [63] b).1 ≠ 9 → frT (w ++ b) = frT (b.dropWhile isWordy)
  | [], w, hw, _ => by rw [frT_word w [] hw rfl (by simp)]; rfl
  | c :: b, w, hw, h => by
    cases hc : isWordy c with
    | true =>
      have := frT_behind b (w ++ [c]) (by rw [List.all_append, hw]; simp [hc]) (by rwa [cFeed_ask c b hc] at h)
      rw [List.dropWhile_cons, if_pos hc, ← this, List.append_assoc]; rfl
    | false =>
      rw [List.dropWhile_cons, if_neg (by rw [hc]; simp)]
      refine frT_word w _ hw (by rw [List.takeWhile_cons, if_neg (by rw [hc]; simp)]) ?_
      rintro ⟨_, h2⟩
      obtain rfl : c = 40 := by simpa using h2
      apply h
      rw [cFeed_cons]
      have e : cStep 0 [63] 40 = (9, []) := by decide
      rw [e]; exact cFeed_nine _ _

/-! ### Ahead of it -/
theorem cFeed_close : ∀ (l : List UInt8), (cFeed 8 [] l).1 = 0 → ∃ u v, l = u ++ 41 :: v ∧ (41 : UInt8) ∉ u ∧ cFeed 8 [] l = cFeed 0 [] v
  | [], h => by cases h
  | c :: r, h => by
    by_cases hc : c = 41
    · subst hc
      exact ⟨[], r, rfl, by simp, by rw [cFeed_cons]; rfl⟩
    · have e : cFeed 8 [] (c :: r) = cFeed 8 [] r := by
        rw [cFeed_cons]
        have : cStep 8 [] c = (8, []) := by simp [cStep, hc]
        rw [this]
      rw [e] at h ⊢
      obtain ⟨u, v, h1, h2, h3⟩ := cFeed_close r h
      exact ⟨c :: u, v, by rw [h1]; rfl, by simp [h2, Ne.symm hc], h3⟩
theorem cFeed_quote (q : UInt8) (p : Int) (hp : p = 1 ∧ q = 34 ∨ p = 2 ∧ q = 39) : ∀ (m : Nat) (l : List UInt8), l.length ≤ m → (cFeed p [] l).1 = 0 → ∃ n, n ≤ l.length ∧ (∀ z, quotN q (l ++ z) = some n) ∧ cFeed p [] l = cFeed 0 [] (l.drop n) := by
  intro m
  induction m with
  | zero =>
    intro l hl h
    obtain rfl : l = [] := List.eq_nil_of_length_eq_zero (by omega)
    rcases hp with ⟨rfl, _⟩ | ⟨rfl, _⟩ <;> cases h
  | succ m ih =>
    intro l hl h
    cases l with
    | nil => rcases hp with ⟨rfl, _⟩ | ⟨rfl, _⟩ <;> cases h
    | cons c r =>
      rw [List.length_cons] at hl
      by_cases h92 : c = 92
      · subst h92
        cases r with
        | nil => exfalso; rcases hp with ⟨rfl, _⟩ | ⟨rfl, _⟩ <;> exact absurd h (by decide)
        | cons d r =>
          have e : cFeed p [] (92 :: d :: r) = cFeed p [] r := by
            rw [cFeed_cons, cFeed_cons]
            rcases hp with ⟨rfl, _⟩ | ⟨rfl, _⟩ <;> rfl
          rw [e] at h ⊢
          obtain ⟨n, h1, h2, h3⟩ := ih r (by rw [List.length_cons] at hl; omega) h
          refine ⟨n + 2, by simp; omega, fun z => ?_, h3⟩
          have := quotN_esc q (d :: (r ++ z))
          rw [List.cons_append, List.cons_append, this]
          show (quotN q (r ++ z)).map _ = _
          rw [h2 z]; rfl
      · by_cases hln : c = 10 ∨ c = 13
        · exfalso
          have hne : ¬ ((c = 34 ∧ p = 1) ∨ (c = 39 ∧ p = 2)) := by
            rcases hln with rfl | rfl <;> simp
          have e : cStep p [] c = (9, []) := by
            rcases hp with ⟨rfl, _⟩ | ⟨rfl, _⟩ <;> simp [cStep, cQuoted, h92, hln] <;> (rintro rfl; simp at hln)
          rw [cFeed_cons, e, cFeed_nine] at h
          cases h
        · by_cases hq : c = q
          · subst hq
            refine ⟨1, by simp, fun z => quotN_end _ _ _ h92 hln rfl, ?_⟩
            rw [cFeed_cons]
            have e : cStep p [] c = (0, []) := by
              rcases hp with ⟨rfl, rfl⟩ | ⟨rfl, rfl⟩ <;> rfl
            rw [e]; rfl
          · have e : cStep p [] c = (p, []) := by
              rcases hp with ⟨rfl, rfl⟩ | ⟨rfl, rfl⟩ <;> simp [cStep, cQuoted, h92, hln, hq]
            rw [cFeed_cons, e] at h ⊢
            obtain ⟨n, h1, h2, h3⟩ := ih r (by omega) h
            refine ⟨n + 1, by simp; omega, fun z => ?_, h3⟩
            rw [List.cons_append, quotN_more _ _ _ h92 hln hq, h2 z]; rfl
theorem cFeed_star : ∀ (m : Nat) (l : List UInt8), l.length ≤ m →
    ((cFeed 6 [] l).1 = 0 → ∃ n, n + 2 ≤ l.length ∧ (∀ z, idxO (l ++ z) [42, 47] = some n) ∧ cFeed 6 [] l = cFeed 0 [] (l.drop (n + 2))) ∧
    ((cFeed 7 [] l).1 = 0 → ∃ n, n + 2 ≤ l.length + 1 ∧ (∀ z, idxO (42 :: (l ++ z)) [42, 47] = some n) ∧ cFeed 7 [] l = cFeed 0 [] ((42 :: l).drop (n + 2))) := by
  intro m
  induction m with
  | zero =>
    intro l hl
    obtain rfl : l = [] := List.eq_nil_of_length_eq_zero (by omega)
    exact ⟨fun h => absurd h (by decide), fun h => absurd h (by decide)⟩
  | succ m ih =>
    intro l hl
    cases l with
    | nil => exact ⟨fun h => absurd h (by decide), fun h => absurd h (by decide)⟩
    | cons c r =>
      rw [List.length_cons] at hl
      obtain ⟨ih6, ih7⟩ := ih r (by omega)
      by_cases h42 : c = 42
      · subst h42
        have e6 : cFeed 6 [] (42 :: r) = cFeed 7 [] r := by rw [cFeed_cons]; rfl
        have e7 : cFeed 7 [] (42 :: r) = cFeed 7 [] r := by rw [cFeed_cons]; rfl
        refine ⟨fun h => ?_, fun h => ?_⟩
        · rw [e6] at h ⊢
          exact ih7 h
        · rw [e7] at h ⊢
          obtain ⟨n, h1, h2, h3⟩ := ih7 h
          refine ⟨n + 1, by simp; omega, fun z => ?_, h3⟩
          rw [List.cons_append, idxO_cons, if_neg (by simp [List.isPrefixOf]), h2 z]; rfl
      · have e6 : cFeed 6 [] (c :: r) = cFeed 6 [] r := by
          rw [cFeed_cons]
          have : cStep 6 [] c = (6, []) := by simp [cStep, cRemark, h42]
          rw [this]
        refine ⟨fun h => ?_, fun h => ?_⟩
        · rw [e6] at h ⊢
          obtain ⟨n, h1, h2, h3⟩ := ih6 h
          refine ⟨n + 1, by simp; omega, fun z => ?_, h3⟩
          have : (42 : UInt8) ≠ c := fun h => h42 h.symm
          rw [List.cons_append, idxO_cons, if_neg (by simp [List.isPrefixOf, this]), h2 z]; rfl
        · by_cases h47 : c = 47
          · subst h47
            refine ⟨0, by simp, fun z => ?_, by rw [cFeed_cons]; rfl⟩
            rw [List.cons_append, idxO_cons, if_pos (by simp [List.isPrefixOf])]
          · have e7 : cFeed 7 [] (c :: r) = cFeed 6 [] r := by
              rw [cFeed_cons]
              have : cStep 7 [] c = (6, []) := by simp [cStep, cRemark, h42, h47]
              rw [this]
            rw [e7] at h ⊢
            obtain ⟨n, h1, h2, h3⟩ := ih6 h
            refine ⟨n + 2, by simp; omega, fun z => ?_, h3⟩
            have n1 : (47 : UInt8) ≠ c := fun h => h47 h.symm
            have n2 : (42 : UInt8) ≠ c := fun h => h42 h.symm
            rw [List.cons_append, idxO_cons, if_neg (by simp [List.isPrefixOf, n1]), idxO_cons, if_neg (by simp [List.isPrefixOf, n2]), h2 z]; rfl
theorem low_wordy (w : List UInt8) (h : w.all isWordy = true) : (low w).take 16 ≠ [63] := by
  intro e
  have : (63 : UInt8) ∈ low w := List.mem_of_mem_take (by rw [e]; exact List.mem_singleton_self _)
  rw [low_all, List.mem_map] at this
  obtain ⟨c, hc, h63⟩ := this
  have h1 := List.all_eq_true.1 h c hc
  exact oct_all (p := fun c => isWordy c = true → lowB c ≠ 63) (by decide +kernel) c h1 h63
theorem low_url (w : List UInt8) : (low w).take 16 = [117, 114, 108] ↔ low w = [117, 114, 108] := by
  constructor
  · intro e
    have := congrArg List.length e
    rw [List.length_take] at this
    rw [← e, List.take_of_length_le]
    simp only [List.length_cons, List.length_nil] at this
    omega
  · intro e; rw [e]; rfl
theorem frT_quote (c : UInt8) (r : List UInt8) (n : Nat) (hc : c = 34 ∨ c = 39) (hq : quotN c r = some n) : frT (c :: r) = (frT (r.drop n)).map fun F => [((2 : Int), c :: r.take n)] ++ F := by
  have hw : isWordy c = false := by rcases hc with rfl | rfl <;> decide
  have hb : isBlank c = false := by rcases hc with rfl | rfl <;> decide
  have hone : oneP (c :: r) = (2, some (n + 1)) := by rw [oneP_cons, if_neg (by rw [hw]; simp), if_pos hc, hq]; rfl
  rw [frT_some c r _ hb (by rw [hone]), hone]
  rfl
theorem frT_remark (r : List UInt8) (n : Nat) (hq : idxO r [42, 47] = some n) : frT (47 :: 42 :: r) = (frT (r.drop (n + 2))).map fun F => [((3 : Int), 47 :: 42 :: r.take (n + 2))] ++ F := by
  have hone : oneP (47 :: 42 :: r) = (3, some (n + 4)) := by
    rw [oneP_cons, if_neg (by decide), if_neg (by decide), if_pos (by simp [List.isPrefixOf])]
    show (3, (idxO r [42, 47]).map _) = _
    rw [hq]; rfl
  rw [frT_some _ _ _ (by decide) (by rw [hone]), hone]
  rfl
theorem frT_ahead : ∀ (m : Nat) (a : List UInt8), a.length ≤ m → ∀ (w word : List UInt8), w.all isWordy = true → word = (low w).take 16 → (cFeed 0 word a).1 = 0 →
    ∃ (F : List Fr) (w' : List UInt8), w'.all isWordy = true ∧ ∀ z, frT (w ++ (a ++ z)) = (frT (w' ++ z)).map (F ++ ·) := by
  intro m
  induction m with
  | zero =>
    intro a ha w word hw hwd h
    obtain rfl : a = [] := List.eq_nil_of_length_eq_zero (by omega)
    exact ⟨[], w, hw, fun z => by simp⟩
  | succ m ih =>
    intro a ha w word hw hwd h
    cases a with
    | nil => exact ⟨[], w, hw, fun z => by simp⟩
    | cons c a =>
      rw [List.length_cons] at ha
      have h63 : word ≠ [63] := by rw [hwd]; exact low_wordy w hw
      rw [cFeed_cons] at h
      have e0 : cStep 0 word c = cCode word c := by unfold cStep; rw [if_pos rfl]
      rw [e0] at h
      cases hc : isWordy c with
      | true =>
        have e : ∃ word', cCode word c = (0, word') ∧ word' = (low (w ++ [c])).take 16 := by
          unfold cCode
          rw [if_pos hc, if_neg h63]
          have hlen : word.length = min 16 w.length := by rw [hwd, List.length_take, low_length]
          split
          · rename_i hlt
            refine ⟨_, rfl, ?_⟩
            rw [low_append, hwd, List.take_of_length_le (by rw [low_length]; omega), List.take_of_length_le (by rw [List.length_append, low_length]; show _ + 1 ≤ _; omega)]
            rfl
          · rename_i hlt
            refine ⟨_, rfl, ?_⟩
            rw [low_append, hwd, List.take_append_of_le_length (by rw [low_length]; omega)]
        obtain ⟨word', e1, e2⟩ := e
        rw [e1] at h
        obtain ⟨F, w', h1, h2⟩ := ih a (by omega) (w ++ [c]) word' (by rw [List.all_append, hw]; simp [hc]) e2 h
        exact ⟨F, w', h1, fun z => by rw [← h2 z, List.append_assoc]; rfl⟩
      | false =>
        have hskip : ∀ z, c ≠ 40 ∨ low w ≠ [117, 114, 108] → frT (w ++ (c :: a ++ z)) = frT (c :: (a ++ z)) := fun z hz => by
          rw [List.cons_append]
          refine frT_word w _ hw (by rw [List.takeWhile_cons, if_neg (by rw [hc]; simp)]) ?_
          rintro ⟨h1, h2⟩
          rcases hz with h3 | h3
          · exact h3 (by simpa using h2)
          · exact h3 h1
        have hnw : ¬ isWordy c = true := by rw [hc]; simp
        by_cases h40 : c = 40
        · subst h40
          by_cases hu : low w = [117, 114, 108]
          · have e : cCode word 40 = (8, []) := by unfold cCode; rw [if_neg hnw, if_pos rfl, if_pos (by rw [hwd]; exact (low_url w).2 hu)]
            rw [e] at h
            obtain ⟨u, v, rfl, h1, h2⟩ := cFeed_close a h
            rw [h2] at h
            obtain ⟨F, w', h3, h4⟩ := ih v (by simp at ha; omega) [] [] rfl rfl h
            refine ⟨(4, w ++ 40 :: (u ++ [41])) :: F, w', h3, fun z => ?_⟩
            have := frT_url w (v ++ z) u hw hu h1
            have e2 : w ++ (40 :: (u ++ 41 :: v) ++ z) = w ++ 40 :: (u ++ 41 :: (v ++ z)) := by simp
            rw [e2, this]
            have := h4 z
            rw [List.nil_append] at this
            rw [this, Option.map_map]
            rfl
          · have e : cCode word 40 = (0, []) := by
              unfold cCode
              rw [if_neg hnw, if_pos rfl, if_neg (fun h => hu ((low_url w).1 (hwd ▸ h))), if_neg h63]
            rw [e] at h
            obtain ⟨F, w', h3, h4⟩ := ih a (by omega) [] [] rfl rfl h
            refine ⟨(5, [40]) :: F, w', h3, fun z => ?_⟩
            rw [hskip z (.inr hu), frT_sign 40 _ hc (by decide) (by simp [List.isPrefixOf]) (by decide) (by decide)]
            have := h4 z
            rw [List.nil_append] at this
            rw [this, Option.map_map]
            rfl
        · have hs := fun z => hskip z (.inl h40)
          by_cases h92 : c = 92
          · subst h92
            have e : cCode word 92 = (9, []) := by unfold cCode; rw [if_neg hnw, if_neg h40, if_pos rfl]
            rw [e, cFeed_nine] at h
            cases h
          · by_cases hq : c = 34 ∨ c = 39
            · have e : ∃ p : Int, (p = 1 ∧ c = 34 ∨ p = 2 ∧ c = 39) ∧ cCode word c = (p, []) := by
                unfold cCode
                rw [if_neg hnw, if_neg h40, if_neg h92]
                rcases hq with rfl | rfl
                · exact ⟨1, .inl ⟨rfl, rfl⟩, rfl⟩
                · exact ⟨2, .inr ⟨rfl, rfl⟩, rfl⟩
              obtain ⟨p, hp, e⟩ := e
              rw [e] at h
              obtain ⟨n, h1, h2, h3⟩ := cFeed_quote c p hp a.length a (Nat.le_refl _) h
              simp only at h h3
              rw [h3] at h
              obtain ⟨F, w', h4, h5⟩ := ih (a.drop n) (by rw [List.length_drop]; omega) [] [] rfl rfl h
              refine ⟨(2, c :: a.take n) :: F, w', h4, fun z => ?_⟩
              rw [hs z, frT_quote c _ n hq (h2 z), List.drop_append_of_le_length h1, List.take_append_of_le_length h1]
              have := h5 z
              rw [List.nil_append] at this
              rw [this, Option.map_map]
              rfl
            · by_cases h47 : c = 47
              · subst h47
                have e : cCode word 47 = (5, []) := by unfold cCode; rw [if_neg hnw, if_neg h40, if_neg h92, if_neg (by decide), if_neg (by decide), if_pos rfl]
                rw [e] at h
                simp only at h
                cases a with
                | nil => cases h
                | cons d a =>
                  by_cases hd : d = 42
                  · subst hd
                    have e2 : cFeed 5 [] (42 :: a) = cFeed 6 [] a := by rw [cFeed_cons]; rfl
                    rw [e2] at h
                    obtain ⟨n, h1, h2, h3⟩ := (cFeed_star a.length a (Nat.le_refl _)).1 h
                    rw [h3] at h
                    obtain ⟨F, w', h4, h5⟩ := ih (a.drop (n + 2)) (by rw [List.length_drop]; simp at ha; omega) [] [] rfl rfl h
                    refine ⟨(3, 47 :: 42 :: a.take (n + 2)) :: F, w', h4, fun z => ?_⟩
                    rw [hs z, List.cons_append, frT_remark _ n (h2 z), List.drop_append_of_le_length h1, List.take_append_of_le_length h1]
                    have := h5 z
                    rw [List.nil_append] at this
                    rw [this, Option.map_map]
                    rfl
                  · have e2 : cFeed 5 [] (d :: a) = cFeed 0 [] (d :: a) := by
                      rw [cFeed_cons, cFeed_cons]
                      have : cStep 5 [] d = cStep 0 [] d := by simp [cStep, cRemark, hd]
                      rw [this]
                    rw [e2] at h
                    obtain ⟨F, w', h4, h5⟩ := ih (d :: a) (by omega) [] [] rfl rfl h
                    refine ⟨F, w', h4, fun z => ?_⟩
                    have n2 : (42 : UInt8) ≠ d := fun h => hd h.symm
                    rw [hs z, frT_sign 47 _ hc (by decide) (by simp [List.isPrefixOf, n2]) (by decide) (by decide)]
                    have := h5 z
                    rw [List.nil_append] at this
                    rw [this, Option.map_map]
                    rfl
              · have e : cCode word c = (0, []) := by
                  unfold cCode
                  rw [if_neg hnw, if_neg h40, if_neg h92, if_neg (fun h => hq (.inl h)), if_neg (fun h => hq (.inr h)), if_neg h47]
                rw [e] at h
                obtain ⟨F, w', h4, h5⟩ := ih a (by omega) [] [] rfl rfl h
                cases hb : isBlank c with
                | true =>
                  refine ⟨F, w', h4, fun z => ?_⟩
                  rw [hs z, frT_blank c _ hb]
                  have := h5 z
                  rwa [List.nil_append] at this
                | false =>
                  refine ⟨(if frK 5 [c] then [((5 : Int), [c])] else []) ++ F, w', h4, fun z => ?_⟩
                  have n2 : (47 : UInt8) ≠ c := fun h => h47 h.symm
                  rw [hs z, frT_sign c _ hc hq (by simp [List.isPrefixOf, n2]) h92 hb]
                  have := h5 z
                  rw [List.nil_append] at this
                  rw [this, Option.map_map]
                  congr 1
                  funext G
                  show _ ++ (_ ++ _) = _
                  rw [List.append_assoc]
/-- THE LAW -/
theorem frT_holes (a b x y : List UInt8) (ha : (cFeed 0 [] a).1 = 0) (hb : (cFeed 0 [63] b).1 ≠ 9) (hx : ∀ c ∈ x, okCss c = true) (hy : ∀ c ∈ y, okCss c = true) : frT (a ++ x ++ b) = frT (a ++ y ++ b) := by
  obtain ⟨F, w, hw, h⟩ := frT_ahead a.length a (Nat.le_refl _) [] [] rfl rfl ha
  obtain ⟨w1, hw1, h1⟩ := frT_told x w hw hx
  obtain ⟨w2, hw2, h2⟩ := frT_told y w hw hy
  have e1 := h (x ++ b)
  have e2 := h (y ++ b)
  rw [List.nil_append] at e1 e2
  rw [List.append_assoc, List.append_assoc, e1, e2, h1, h2, frT_behind b w1 hw1 hb, frT_behind b w2 hw2 hb]
/-- what two such texts' pieces are -/
theorem pieces_holes (a b x y : List UInt8) (ha : (cFeed 0 [] a).1 = 0) (hb : (cFeed 0 [63] b).1 ≠ 9) (hx : ∀ c ∈ x, okCss c = true) (hy : ∀ c ∈ y, okCss c = true) :
    ((pieces (a ++ x ++ b)).2.2 = 0 ∧ (pieces (a ++ y ++ b)).2.2 = 0 ∧ frP (pieces (a ++ x ++ b)).1 = frP (pieces (a ++ y ++ b)).1) ∨
    (¬ ((pieces (a ++ x ++ b)).2.2 = 0 ∧ (pieces (a ++ y ++ b)).2.2 = 0) ∧ ((pieces (a ++ x ++ b)).2.2 = (pieces (a ++ y ++ b)).2.2 ∨ (pieces (a ++ x ++ b)).2.2 = 5 ∨ (pieces (a ++ y ++ b)).2.2 = 5 ∨ (pieces (a ++ x ++ b)).2.2 = 3 ∨ (pieces (a ++ y ++ b)).2.2 = 3)) := by
  have h := frT_holes a b x y ha hb hx hy
  unfold pieces
  by_cases l1 : (a ++ x ++ b).length ≤ 65536
  · rw [if_pos l1]
    by_cases l2 : (a ++ y ++ b).length ≤ 65536
    · rw [if_pos l2]
      rcases pcsT_frT _ (a ++ x ++ b) 0 [] (Nat.le_refl _) with ⟨p1, F, p2, p3⟩ | ⟨p1, p2⟩ | p1
      · rcases pcsT_frT _ (a ++ y ++ b) 0 [] (Nat.le_refl _) with ⟨q1, G, q2, q3⟩ | ⟨q1, q2⟩ | q1
        · refine .inl ⟨p1, q1, ?_⟩
          rw [p3, q3]
          rw [h, q2] at p2
          injection p2 with p2
          rw [p2]
        · rw [h, q2] at p2; cases p2
        · exact .inr ⟨by rw [q1]; simp, by rw [q1]; simp⟩
      · rcases pcsT_frT _ (a ++ y ++ b) 0 [] (Nat.le_refl _) with ⟨q1, G, q2, q3⟩ | ⟨q1, q2⟩ | q1
        · rw [h, q2] at p2; cases p2
        · exact .inr ⟨by rw [q1]; simp, by rw [p1, q1]; simp⟩
        · exact .inr ⟨by rw [q1]; simp, by rw [q1]; simp⟩
      · exact .inr ⟨by rw [p1]; simp, by rw [p1]; simp⟩
    · rw [if_neg l2]
      exact .inr ⟨by simp, by simp⟩
  · rw [if_neg l1]
    exact .inr ⟨by simp, by simp⟩
end Go.Proofs.Ytkfijdccemblmaa
