/- Plain: a text's characters, and it repaired. No program in sight. -/
import Derived.Test.YtihgmgpcdodknaaDecP
set_option linter.unusedVariables false
namespace Go.Proofs.Ytihgmgpcdodknaa
open Go.RowKit Go.Lib

theorem decN_pos (l : List UInt8) (h : l ≠ []) : 1 ≤ decN l ∧ decN l ≤ l.length := by
  unfold decN
  rw [if_neg h]
  have := decodeL_width l
  have hl : 0 < l.length := List.length_pos_iff.2 h
  by_cases hb : (decodeL l).1 = 65533 ∧ (decodeL l).2 = 1
  · omega
  · have e := encode_decode l h hb
    have e2 := congrArg List.length e
    rw [List.length_take] at e2
    have e3 := encodeRune_len ((decodeL l).1 : Int)
    refine ⟨this, ?_⟩
    rcases Nat.lt_or_ge l.length (decodeL l).2 with hlt | hge
    · exfalso
      have e4 : l.take (decodeL l).2 = l := List.take_of_length_le (by omega)
      rw [e4] at e
      have e5 := decode_encode ((decodeL l).1 : Int) []
      have hr := decodeL_rune l
      by_cases hok : encOk ((decodeL l).1 : Int) = true
      · have e6 := e5 hok
        rw [List.append_nil, e] at e6
        have := congrArg Prod.snd e6
        simp only at this
        omega
      · have hs : 55296 ≤ (decodeL l).1 ∧ (decodeL l).1 ≤ 57343 := by
          have : ¬ (0 ≤ ((decodeL l).1 : Int) ∧ ((decodeL l).1 : Int) ≤ 1114111 ∧ ¬ (55296 ≤ ((decodeL l).1 : Int) ∧ ((decodeL l).1 : Int) ≤ 57343)) := fun h => hok (decide_eq_true h)
          omega
        have hz : encodeRuneZ ((decodeL l).1 : Int) = [239, 191, 189] := encodeRuneZ_bad (.inr (.inl ⟨by omega, by omega⟩))
        have e7 : l = encodeRune 65533 := by rw [← e]; unfold encodeRune; rw [hz]; rfl
        rw [e7] at hs
        have := decode_encode 65533 [] (by decide)
        rw [List.append_nil] at this
        rw [this] at hs
        simp at hs
    · exact hge
theorem valid_step' (l : List UInt8) (h : l ≠ []) : validD l = if decC l < 0 then false else validD (l.drop (decN l)) := by
  rw [validD_step l h]
  unfold decC decN
  rw [if_neg h, if_neg h]
  by_cases hb : (decodeL l).1 = 65533 ∧ (decodeL l).2 = 1
  · rw [if_pos hb, if_pos hb, if_pos (by decide)]
  · rw [if_neg hb, if_neg hb, if_neg (by omega)]
/-- the first character, as repaired -/
def chrL (l : List UInt8) : Int := if decC l ≤ 0 then 65533 else decC l
def charsN : Nat → List UInt8 → List Int
  | 0, _ => []
  | n + 1, l => if l = [] then [] else chrL l :: charsN n (l.drop (decN l))
def charsL (l : List UInt8) : List Int := charsN l.length l
theorem charsN_more : ∀ (n m : Nat) (l : List UInt8), l.length ≤ n → l.length ≤ m → charsN n l = charsN m l
  | 0, m, l, h1, h2 => by
    have : l = [] := List.eq_nil_of_length_eq_zero (by omega)
    subst this
    cases m <;> simp [charsN]
  | n + 1, 0, l, h1, h2 => by
    have : l = [] := List.eq_nil_of_length_eq_zero (by omega)
    subst this
    simp [charsN]
  | n + 1, m + 1, l, h1, h2 => by
    unfold charsN
    by_cases h : l = []
    · rw [if_pos h, if_pos h]
    · rw [if_neg h, if_neg h]
      have := decN_pos l h
      rw [charsN_more n m _ (by rw [List.length_drop]; omega) (by rw [List.length_drop]; omega)]
theorem charsL_nil : charsL [] = [] := rfl
theorem charsL_step (l : List UInt8) (h : l ≠ []) : charsL l = chrL l :: charsL (l.drop (decN l)) := by
  unfold charsL
  have hl : 0 < l.length := List.length_pos_iff.2 h
  have hd := decN_pos l h
  obtain ⟨n, hn⟩ : ∃ n, l.length = n + 1 := ⟨l.length - 1, by omega⟩
  rw [hn]
  show (if l = [] then [] else _) = _
  rw [if_neg h, charsN_more n _ _ (by rw [List.length_drop]; omega) (Nat.le_refl _)]
theorem decC_ok (l : List UInt8) (h : 0 ≤ decC l) : encOk (decC l) = true ∧ encodeRune (decC l) = l.take (decN l) := by
  rcases Classical.em (Good l) with hg | hg
  · obtain ⟨c, s, hok, rfl⟩ := hg
    have e := decC_enc c s hok
    rw [e.1, e.2, List.take_left]
    exact ⟨hok, rfl⟩
  · by_cases hne : l = []
    · subst hne; simp [decC] at h
    · rw [(good_not l hne hg).1] at h; omega
theorem chrL_ok (l : List UInt8) : encOk (chrL l) = true ∧ 0 < chrL l := by
  unfold chrL
  by_cases h : decC l ≤ 0
  · rw [if_pos h]; decide
  · rw [if_neg h]; exact ⟨(decC_ok l (by omega)).1, by omega⟩
theorem charsL_ok : ∀ (n : Nat) (l : List UInt8), l.length ≤ n → ∀ c ∈ charsL l, encOk c = true ∧ 0 < c
  | 0, l, h => by
    have : l = [] := List.eq_nil_of_length_eq_zero (by omega)
    subst this; simp [charsL_nil]
  | n + 1, l, h => by
    by_cases hne : l = []
    · subst hne; simp [charsL_nil]
    · have hd := decN_pos l hne
      rw [charsL_step l hne]
      intro c hc
      rcases List.mem_cons.1 hc with rfl | hc
      · exact chrL_ok l
      · exact charsL_ok n _ (by rw [List.length_drop]; omega) c hc
theorem charsL_len : ∀ (n : Nat) (l : List UInt8), l.length ≤ n → (charsL l).length ≤ l.length
  | 0, l, h => by
    have : l = [] := List.eq_nil_of_length_eq_zero (by omega)
    subst this; simp [charsL_nil]
  | n + 1, l, h => by
    by_cases hne : l = []
    · subst hne; simp [charsL_nil]
    · have hd := decN_pos l hne
      rw [charsL_step l hne]
      have := charsL_len n (l.drop (decN l)) (by rw [List.length_drop]; omega)
      rw [List.length_drop] at this
      rw [List.length_cons]; omega
/-- characters' octets -/
def encAll (l : List Int) : List UInt8 := l.flatMap encodeRune
theorem encAll_snoc (l : List Int) (c : Int) : encAll (l ++ [c]) = encAll l ++ encodeRune c := by simp [encAll]
theorem encAll_len (l : List Int) : (encAll l).length ≤ 4 * l.length := by
  induction l with
  | nil => simp [encAll]
  | cons c l ih =>
    have := encodeRune_len c
    have e : encAll (c :: l) = encodeRune c ++ encAll l := by simp [encAll]
    rw [e, List.length_append, List.length_cons]; omega
/-- a text repaired -/
def repairL (l : List UInt8) : List UInt8 := encAll (charsL l)
theorem charsL_enc (c : Int) (s : List UInt8) (h : encOk c = true) (h0 : 0 < c) : charsL (encodeRune c ++ s) = c :: charsL s := by
  have e := decC_enc c s h
  rw [charsL_step _ (by simp [encodeRune_ne c]), e.2, List.drop_left]
  unfold chrL
  rw [e.1, if_neg (by omega)]
theorem charsL_encAll : ∀ (l : List Int), (∀ c ∈ l, encOk c = true ∧ 0 < c) → charsL (encAll l) = l
  | [], _ => rfl
  | c :: l, h => by
    have e : encAll (c :: l) = encodeRune c ++ encAll l := by simp [encAll]
    rw [e, charsL_enc c _ (h c (by simp)).1 (h c (by simp)).2, charsL_encAll l (fun d hd => h d (by simp [hd]))]
theorem repair_twice (l : List UInt8) : repairL (repairL l) = repairL l := by
  unfold repairL
  rw [charsL_encAll _ (charsL_ok _ l (Nat.le_refl _))]
theorem repair_count (l : List UInt8) : (charsL (repairL l)).length = (charsL l).length := by
  unfold repairL
  rw [charsL_encAll _ (charsL_ok _ l (Nat.le_refl _))]
theorem validD_enc (c : Int) (s : List UInt8) (h : encOk c = true) : validD (encodeRune c ++ s) = validD s := by
  rw [validD_step _ (by simp [encodeRune_ne c]), if_neg (enc_notbad c h s), decode_encode c s h, List.drop_left]
theorem validD_encAll : ∀ (l : List Int), (∀ c ∈ l, encOk c = true) → validD (encAll l) = true
  | [], _ => by rfl
  | c :: l, h => by
    have e : encAll (c :: l) = encodeRune c ++ encAll l := by simp [encAll]
    rw [e, validD_enc c _ (h c (by simp)), validD_encAll l (fun d hd => h d (by simp [hd]))]
theorem repair_valid (l : List UInt8) : validD (repairL l) = true := validD_encAll _ (fun c hc => (charsL_ok _ l (Nat.le_refl _) c hc).1)
/-- a character's octets hold no 0 -/
theorem enc_no0 (c : Int) (h : encOk c = true) (h0 : 0 < c) : (0 : UInt8) ∉ encodeRune c := by
  have hc := of_decide_eq_true h
  intro hm
  unfold encodeRune at hm
  rw [List.mem_map] at hm
  obtain ⟨x, hx, hx0⟩ := hm
  have hb := encodeRuneZ_byte c x hx
  have : x = 0 := by
    have := congrArg UInt8.toNat hx0
    simp at this; omega
  subst this
  have hcases : (0 ≤ c ∧ c ≤ 127) ∨ (128 ≤ c ∧ c ≤ 2047) ∨ ((2048 ≤ c ∧ c < 55296) ∨ (57343 < c ∧ c ≤ 65535)) ∨ (65536 ≤ c ∧ c ≤ 1114111) := by omega
  rcases hcases with hr | hr | hr | hr
  · rw [encodeRuneZ_one hr.1 hr.2] at hx; simp at hx; omega
  · rw [encodeRuneZ_two hr.1 hr.2] at hx; simp at hx; omega
  · rw [encodeRuneZ_three hr] at hx; simp at hx; omega
  · rw [encodeRuneZ_four hr.1 hr.2] at hx; simp at hx; omega
theorem repair_no0 (l : List UInt8) : (0 : UInt8) ∉ repairL l := by
  unfold repairL encAll
  intro hm
  rw [List.mem_flatMap] at hm
  obtain ⟨c, hc, h⟩ := hm
  have := charsL_ok _ l (Nat.le_refl _) c hc
  exact enc_no0 c this.1 this.2 h
theorem repair_same : ∀ (n : Nat) (l : List UInt8), l.length ≤ n → validD l = true → (0 : UInt8) ∉ l → repairL l = l
  | 0, l, h, _, _ => by
    have : l = [] := List.eq_nil_of_length_eq_zero (by omega)
    subst this; rfl
  | n + 1, l, h, hv, h0 => by
    by_cases hne : l = []
    · subst hne; rfl
    · have hd := decN_pos l hne
      rw [validD_step l hne] at hv
      by_cases hb : (decodeL l).1 = 65533 ∧ (decodeL l).2 = 1
      · rw [if_pos hb] at hv; cases hv
      · rw [if_neg hb] at hv
        have e1 : decC l = ((decodeL l).1 : Int) := by unfold decC; rw [if_neg hne, if_neg hb]
        have e2 : decN l = (decodeL l).2 := by unfold decN; rw [if_neg hne]
        rw [← e2] at hv
        have e3 := decC_ok l (by omega)
        have hpos : 0 < decC l := by
          rcases Int.lt_or_le 0 (decC l) with h | h
          · exact h
          · exfalso
            have e : decC l = 0 := by omega
            rw [e] at e3
            have : (0 : UInt8) ∈ l.take (decN l) := by rw [← e3.2]; decide
            exact h0 (List.mem_of_mem_take this)
        unfold repairL
        rw [charsL_step l hne]
        have e4 : chrL l = decC l := by unfold chrL; rw [if_neg (by omega)]
        have e5 : encAll (chrL l :: charsL (l.drop (decN l))) = encodeRune (chrL l) ++ repairL (l.drop (decN l)) := by simp [encAll, repairL]
        rw [e5, e4, e3.2, repair_same n _ (by rw [List.length_drop]; omega) hv (fun hm => h0 (List.mem_of_mem_drop hm)), List.take_append_drop]
end Go.Proofs.Ytihgmgpcdodknaa
