import Derived.Test.YtihgmgpcdodknaaDoorPlain
import Derived.Lib.MapLaws
import Derived.Lib.ValidLaws
import Derived.Lib.RuneBytes
import Derived.Lib.TrimUEq
import Derived.Lib.IndexLaws
set_option linter.unusedVariables false
/- Plain: characters and their octets, on lists. No program in sight. -/
namespace Go.Proofs.YtihgmgpcdodknaaDoor
open Go.RowKit Go.Lib

/-- may a number be a character's? -/
def encOk (c : Int) : Bool := decide (0 ≤ c ∧ c ≤ 1114111 ∧ ¬ (55296 ≤ c ∧ c ≤ 57343))
def encL (c : Int) : List UInt8 := if encOk c then encodeRune c else []
def encE (c : Int) : Int := if encOk c then 0 else 4
theorem encOk_valid (c : Int) : encOk c = (decide (0 ≤ c) && decide (c ≤ 1114111) && validRune c) := by
  unfold encOk validRune
  rw [Bool.eq_iff_iff]; simp; omega
/-- the first character and its width; -1: none -/
def decC (l : List UInt8) : Int := if l = [] then -1 else if (decodeL l).1 = 65533 ∧ (decodeL l).2 = 1 then -1 else ((decodeL l).1 : Int)
def decN (l : List UInt8) : Nat := if l = [] then 0 else (decodeL l).2

theorem enc_getD (c : Int) (s : List UInt8) (k : Nat) : ((encodeRune c ++ s).getD k 0).toNat = if h : k < (encodeRuneZ c).length then ((encodeRuneZ c)[k]).toNat else (s.getD (k - (encodeRuneZ c).length) 0).toNat := by
  have hl : (encodeRune c).length = (encodeRuneZ c).length := by simp [encodeRune]
  by_cases h : k < (encodeRuneZ c).length
  · rw [dif_pos h]
    have hb := encodeRuneZ_byte c ((encodeRuneZ c)[k]) (List.getElem_mem h)
    simp [List.getD_eq_getElem?_getD, List.getElem?_append, h, encodeRune]
    omega
  · rw [dif_neg h]
    simp [List.getD_eq_getElem?_getD, List.getElem?_append, hl, h]

theorem dec1 (k n b1 b2 b3 : Nat) (h : k < 128) : decodeN n k b1 b2 b3 = (k, 1) := by
  unfold decodeN; rw [if_pos h]
theorem dec2 (k n b0 b1 b2 b3 : Nat) (h : 128 ≤ k ∧ k ≤ 2047) (hn : 2 ≤ n) (e0 : b0 = 192 + k / 64) (e1 : b1 = 128 + k % 64) : decodeN n b0 b1 b2 b3 = (k, 2) := by
  unfold decodeN
  rw [if_neg (by omega), if_pos (by omega), if_pos (by omega)]
  congr 1; omega
theorem dec3 (k n b0 b1 b2 b3 : Nat) (h : (2048 ≤ k ∧ k < 55296) ∨ (57343 < k ∧ k ≤ 65535)) (hn : 3 ≤ n) (e0 : b0 = 224 + k / 4096) (e1 : b1 = 128 + k / 64 % 64) (e2 : b2 = 128 + k % 64) : decodeN n b0 b1 b2 b3 = (k, 3) := by
  unfold decodeN
  have e : b0 % 16 * 4096 + b1 % 64 * 64 + b2 % 64 = k := by omega
  rw [if_neg (by omega), if_neg (by omega), if_pos (by omega), e, if_pos (by omega)]
theorem dec4 (k n b0 b1 b2 b3 : Nat) (h : 65536 ≤ k ∧ k ≤ 1114111) (hn : 4 ≤ n) (e0 : b0 = 240 + k / 262144) (e1 : b1 = 128 + k / 4096 % 64) (e2 : b2 = 128 + k / 64 % 64) (e3 : b3 = 128 + k % 64) : decodeN n b0 b1 b2 b3 = (k, 4) := by
  unfold decodeN
  have e : b0 % 8 * 262144 + b1 % 64 * 4096 + b2 % 64 * 64 + b3 % 64 = k := by omega
  rw [if_neg (by omega), if_neg (by omega), if_neg (by omega), if_pos (by omega), e, if_pos (by omega)]

theorem decode_encode (c : Int) (s : List UInt8) (h : encOk c = true) : decodeL (encodeRune c ++ s) = (c.toNat, (encodeRune c).length) := by
  have hc := of_decide_eq_true h
  have hl : (encodeRune c).length = (encodeRuneZ c).length := by simp [encodeRune]
  rw [decodeL_N, enc_getD, enc_getD, enc_getD, enc_getD, List.length_append, hl]
  have hcases : (0 ≤ c ∧ c ≤ 127) ∨ (128 ≤ c ∧ c ≤ 2047) ∨ ((2048 ≤ c ∧ c < 55296) ∨ (57343 < c ∧ c ≤ 65535)) ∨ (65536 ≤ c ∧ c ≤ 1114111) := by omega
  rcases hcases with hr | hr | hr | hr
  · rw [encodeRuneZ_one hr.1 hr.2]
    exact dec1 _ _ _ _ _ (by simp; omega)
  · rw [encodeRuneZ_two hr.1 hr.2]
    exact dec2 _ _ _ _ _ _ (by omega) (by simp) (by simp; omega) (by simp; omega)
  · rw [encodeRuneZ_three hr]
    exact dec3 _ _ _ _ _ _ (by omega) (by simp) (by simp; omega) (by simp; omega) (by simp; omega)
  · rw [encodeRuneZ_four hr.1 hr.2]
    exact dec4 _ _ _ _ _ _ (by omega) (by simp) (by simp; omega) (by simp; omega) (by simp; omega) (by simp; omega)
theorem encodeRune_ne (c : Int) : encodeRune c ≠ [] := by
  have h := (encodeRuneZ_length c).1
  intro e
  have : (encodeRune c).length = 0 := by rw [e]; rfl
  have hl : (encodeRune c).length = (encodeRuneZ c).length := by simp [encodeRune]
  omega
theorem encodeRune_len (c : Int) : 1 ≤ (encodeRune c).length ∧ (encodeRune c).length ≤ 4 := by
  have h := encodeRuneZ_length c
  simp [encodeRune]; omega
theorem enc_notbad (c : Int) (h : encOk c = true) (s : List UInt8) : ¬ ((decodeL (encodeRune c ++ s)).1 = 65533 ∧ (decodeL (encodeRune c ++ s)).2 = 1) := by
  rw [decode_encode c s h]
  rintro ⟨h1, h2⟩
  simp only at h1 h2
  have : c = 65533 := by omega
  subst this
  have : (encodeRune 65533).length = 3 := by decide
  omega
theorem valid_enc (c : Int) (h : encOk c = true) : validD (encodeRune c) = true := by
  have e := enc_notbad c h []
  have e2 := decode_encode c [] h
  rw [List.append_nil] at e e2
  rw [validD_step _ (encodeRune_ne c), if_neg e, e2, List.drop_length]
  rfl
theorem decC_enc (c : Int) (s : List UInt8) (h : encOk c = true) : decC (encodeRune c ++ s) = c ∧ decN (encodeRune c ++ s) = (encodeRune c).length := by
  have hn : encodeRune c ++ s ≠ [] := by simp [encodeRune_ne c]
  unfold decC decN
  rw [if_neg hn, if_neg hn, if_neg (enc_notbad c h s), decode_encode c s h]
  have hc := of_decide_eq_true h
  exact ⟨by simp; omega, rfl⟩
end Go.Proofs.YtihgmgpcdodknaaDoor
/- Plain: when a list of octets begins with a character, as the pages say it; what a decoder tells then. No program in sight. -/
namespace Go.Proofs.YtihgmgpcdodknaaDoor
open Go.RowKit Go.Lib

def szI (n : Int) : Int := if n < 128 then 1 else if 194 ≤ n ∧ n < 224 then 2 else if 224 ≤ n ∧ n < 240 then 3 else if 240 ≤ n ∧ n < 245 then 4 else 0
/-- what a first octet brings -/
def headI (n : Int) : Int := if n < 128 then n else if n < 224 then n - 192 else if n < 240 then n - 224 else n - 240
def foldC (c : Int) (l : List UInt8) : Int := l.foldl (fun c b => c * 64 + (b.toNat : Int) - 128) c
/-- does a list begin with a character? -/
def Good (l : List UInt8) : Prop := ∃ c s, encOk c = true ∧ l = encodeRune c ++ s
theorem foldC_snoc (c : Int) (l : List UInt8) (b : UInt8) : foldC c (l ++ [b]) = foldC c l * 64 + (b.toNat : Int) - 128 := by simp [foldC]
theorem good_not (l : List UInt8) (hne : l ≠ []) (h : ¬ Good l) : decC l = -1 ∧ decN l = 1 := by
  have hb : (decodeL l).1 = 65533 ∧ (decodeL l).2 = 1 := by
    rcases Classical.em ((decodeL l).1 = 65533 ∧ (decodeL l).2 = 1) with hb | hb
    · exact hb
    · have e := encode_decode l hne hb
      exfalso
      apply h
      refine ⟨((decodeL l).1 : Int), l.drop (decodeL l).2, ?_, by rw [e, List.take_append_drop]⟩
      have hr := decodeL_rune l
      refine decide_eq_true ⟨by omega, by omega, fun hs => ?_⟩
      have hl : (encodeRuneZ ((decodeL l).1 : Int)) = [239, 191, 189] := encodeRuneZ_bad (.inr (.inl ⟨by omega, by omega⟩))
      have e2 : encodeRune 65533 = l.take (decodeL l).2 := by rw [← e]; unfold encodeRune; rw [hl]; rfl
      have e3 := decode_encode 65533 (l.drop (decodeL l).2) (by decide)
      rw [e2, List.take_append_drop] at e3
      have := congrArg Prod.fst e3
      simp only at this
      omega
  unfold decC decN
  rw [if_neg hne, if_neg hne, if_pos hb]
  exact ⟨rfl, hb.2⟩
theorem good_is (l : List UInt8) (c : Int) (h : encOk c = true) (n : Nat) (e : encodeRune c = l.take n) (hn : n ≤ l.length) : decC l = c ∧ decN l = n := by
  have := decC_enc c (l.drop n) h
  rw [e, List.take_append_drop] at this
  rw [this.1, this.2, List.length_take]
  exact ⟨rfl, by omega⟩

theorem toNat_get (z : Int) (h0 : 0 ≤ z) (h1 : z < 256) : ((z.toNat.toUInt8).toNat : Int) = z := by
  simp; omega
/-- a character's octets, as the pages' decoder reads them -/
theorem good_facts (l : List UInt8) (h : Good l) : ∃ a t, ∃ n : Nat, l = a :: t ∧ szI (a.toNat : Int) = n ∧ 1 ≤ n ∧ n ≤ l.length ∧ (∀ b ∈ t.take (n - 1), 128 ≤ b.toNat ∧ b.toNat ≤ 191) ∧
    encOk (foldC (headI (a.toNat : Int)) (t.take (n - 1))) = true ∧ encodeRune (foldC (headI (a.toNat : Int)) (t.take (n - 1))) = l.take n := by
  obtain ⟨c, s, hok, rfl⟩ := h
  have hc := of_decide_eq_true hok
  have hcases : (0 ≤ c ∧ c ≤ 127) ∨ (128 ≤ c ∧ c ≤ 2047) ∨ ((2048 ≤ c ∧ c < 55296) ∨ (57343 < c ∧ c ≤ 65535)) ∨ (65536 ≤ c ∧ c ≤ 1114111) := by omega
  have key : ∀ (a : UInt8) (u : List UInt8), encodeRune c = a :: u → szI (a.toNat : Int) = ((u.length + 1 : Nat) : Int) → (∀ b ∈ u, 128 ≤ b.toNat ∧ b.toNat ≤ 191) → foldC (headI (a.toNat : Int)) u = c →
      ∃ a t, ∃ n : Nat, encodeRune c ++ s = a :: t ∧ szI (a.toNat : Int) = n ∧ 1 ≤ n ∧ n ≤ (encodeRune c ++ s).length ∧ (∀ b ∈ t.take (n - 1), 128 ≤ b.toNat ∧ b.toNat ≤ 191) ∧
      encOk (foldC (headI (a.toNat : Int)) (t.take (n - 1))) = true ∧ encodeRune (foldC (headI (a.toNat : Int)) (t.take (n - 1))) = (encodeRune c ++ s).take n := by
    intro a u e h1 h2 h3
    have e4 : (u ++ s).take (u.length + 1 - 1) = u := by simp
    refine ⟨a, u ++ s, u.length + 1, by rw [e]; rfl, h1, by omega, by rw [e]; simp, by rw [e4]; exact h2, by rw [e4, h3]; exact hok, by rw [e4, h3, e]; simp⟩
  rcases hcases with hr | hr | hr | hr
  · have z := encodeRuneZ_one hr.1 hr.2
    have b0 := toNat_get c (by omega) (by omega)
    refine key _ [] (by unfold encodeRune; rw [z]; rfl) ?_ (by simp) ?_
    · rw [b0]; unfold szI; rw [if_pos (by omega)]; rfl
    · rw [b0]; unfold headI foldC; rw [if_pos (by omega)]; rfl
  · have z := encodeRuneZ_two hr.1 hr.2
    have b0 := toNat_get (192 + c / 64) (by omega) (by omega)
    have b1 := toNat_get (128 + c % 64) (by omega) (by omega)
    refine key _ [(128 + c % 64).toNat.toUInt8] (by unfold encodeRune; rw [z]; rfl) ?_ ?_ ?_
    · rw [b0]; unfold szI; rw [if_neg (by omega), if_pos (by omega)]; rfl
    · intro b hb; simp only [List.mem_cons, List.not_mem_nil, or_false] at hb; subst hb; omega
    · rw [b0]; unfold headI foldC; rw [if_neg (by omega), if_pos (by omega)]; simp only [List.foldl]; rw [b1]; omega
  · have z := encodeRuneZ_three hr
    have b0 := toNat_get (224 + c / 4096) (by omega) (by omega)
    have b1 := toNat_get (128 + c / 64 % 64) (by omega) (by omega)
    have b2 := toNat_get (128 + c % 64) (by omega) (by omega)
    refine key _ [(128 + c / 64 % 64).toNat.toUInt8, (128 + c % 64).toNat.toUInt8] (by unfold encodeRune; rw [z]; rfl) ?_ ?_ ?_
    · rw [b0]; unfold szI; rw [if_neg (by omega), if_neg (by omega), if_pos (by omega)]; rfl
    · intro b hb; simp only [List.mem_cons, List.not_mem_nil, or_false] at hb; rcases hb with rfl | rfl <;> omega
    · rw [b0]; unfold headI foldC; rw [if_neg (by omega), if_neg (by omega), if_pos (by omega)]; simp only [List.foldl]; rw [b1, b2]; omega
  · have z := encodeRuneZ_four hr.1 hr.2
    have b0 := toNat_get (240 + c / 262144) (by omega) (by omega)
    have b1 := toNat_get (128 + c / 4096 % 64) (by omega) (by omega)
    have b2 := toNat_get (128 + c / 64 % 64) (by omega) (by omega)
    have b3 := toNat_get (128 + c % 64) (by omega) (by omega)
    refine key _ [(128 + c / 4096 % 64).toNat.toUInt8, (128 + c / 64 % 64).toNat.toUInt8, (128 + c % 64).toNat.toUInt8] (by unfold encodeRune; rw [z]; rfl) ?_ ?_ ?_
    · rw [b0]; unfold szI; rw [if_neg (by omega), if_neg (by omega), if_neg (by omega), if_pos (by omega)]; rfl
    · intro b hb; simp only [List.mem_cons, List.not_mem_nil, or_false] at hb; rcases hb with rfl | rfl | rfl <;> omega
    · rw [b0]; unfold headI foldC; rw [if_neg (by omega), if_neg (by omega), if_neg (by omega)]; simp only [List.foldl]; rw [b1, b2, b3]; omega
end Go.Proofs.YtihgmgpcdodknaaDoor
/- Plain: a text's characters, and it repaired. No program in sight. -/
namespace Go.Proofs.YtihgmgpcdodknaaDoor
open Go.RowKit Go.Lib

theorem decN_pos (l : List UInt8) (h : l ≠ []) : 1 ≤ decN l ∧ decN l ≤ l.length := by
  unfold decN
  rw [if_neg h]
  have := decodeL_width l
  have hl : 0 < l.length := List.length_pos_iff.2 h
  by_cases hb : (decodeL l).1 = 65533 ∧ (decodeL l).2 = 1
  · omega
  · have e := encode_decode l h hb
    have e2 := congrArg List.length e
    rw [List.length_take] at e2
    have e3 := encodeRune_len ((decodeL l).1 : Int)
    refine ⟨this, ?_⟩
    rcases Nat.lt_or_ge l.length (decodeL l).2 with hlt | hge
    · exfalso
      have e4 : l.take (decodeL l).2 = l := List.take_of_length_le (by omega)
      rw [e4] at e
      have e5 := decode_encode ((decodeL l).1 : Int) []
      have hr := decodeL_rune l
      by_cases hok : encOk ((decodeL l).1 : Int) = true
      · have e6 := e5 hok
        rw [List.append_nil, e] at e6
        have := congrArg Prod.snd e6
        simp only at this
        omega
      · have hs : 55296 ≤ (decodeL l).1 ∧ (decodeL l).1 ≤ 57343 := by
          have : ¬ (0 ≤ ((decodeL l).1 : Int) ∧ ((decodeL l).1 : Int) ≤ 1114111 ∧ ¬ (55296 ≤ ((decodeL l).1 : Int) ∧ ((decodeL l).1 : Int) ≤ 57343)) := fun h => hok (decide_eq_true h)
          omega
        have hz : encodeRuneZ ((decodeL l).1 : Int) = [239, 191, 189] := encodeRuneZ_bad (.inr (.inl ⟨by omega, by omega⟩))
        have e7 : l = encodeRune 65533 := by rw [← e]; unfold encodeRune; rw [hz]; rfl
        rw [e7] at hs
        have := decode_encode 65533 [] (by decide)
        rw [List.append_nil] at this
        rw [this] at hs
        simp at hs
    · exact hge
theorem valid_step' (l : List UInt8) (h : l ≠ []) : validD l = if decC l < 0 then false else validD (l.drop (decN l)) := by
  rw [validD_step l h]
  unfold decC decN
  rw [if_neg h, if_neg h]
  by_cases hb : (decodeL l).1 = 65533 ∧ (decodeL l).2 = 1
  · rw [if_pos hb, if_pos hb, if_pos (by decide)]
  · rw [if_neg hb, if_neg hb, if_neg (by omega)]
/-- the first character, as repaired -/
def chrL (l : List UInt8) : Int := if decC l ≤ 0 then 65533 else decC l
def charsN : Nat → List UInt8 → List Int
  | 0, _ => []
  | n + 1, l => if l = [] then [] else chrL l :: charsN n (l.drop (decN l))
def charsL (l : List UInt8) : List Int := charsN l.length l
theorem charsN_more : ∀ (n m : Nat) (l : List UInt8), l.length ≤ n → l.length ≤ m → charsN n l = charsN m l
  | 0, m, l, h1, h2 => by
    have : l = [] := List.eq_nil_of_length_eq_zero (by omega)
    subst this
    cases m <;> simp [charsN]
  | n + 1, 0, l, h1, h2 => by
    have : l = [] := List.eq_nil_of_length_eq_zero (by omega)
    subst this
    simp [charsN]
  | n + 1, m + 1, l, h1, h2 => by
    unfold charsN
    by_cases h : l = []
    · rw [if_pos h, if_pos h]
    · rw [if_neg h, if_neg h]
      have := decN_pos l h
      rw [charsN_more n m _ (by rw [List.length_drop]; omega) (by rw [List.length_drop]; omega)]
theorem charsL_nil : charsL [] = [] := rfl
theorem charsL_step (l : List UInt8) (h : l ≠ []) : charsL l = chrL l :: charsL (l.drop (decN l)) := by
  unfold charsL
  have hl : 0 < l.length := List.length_pos_iff.2 h
  have hd := decN_pos l h
  obtain ⟨n, hn⟩ : ∃ n, l.length = n + 1 := ⟨l.length - 1, by omega⟩
  rw [hn]
  show (if l = [] then [] else _) = _
  rw [if_neg h, charsN_more n _ _ (by rw [List.length_drop]; omega) (Nat.le_refl _)]
theorem decC_ok (l : List UInt8) (h : 0 ≤ decC l) : encOk (decC l) = true ∧ encodeRune (decC l) = l.take (decN l) := by
  rcases Classical.em (Good l) with hg | hg
  · obtain ⟨c, s, hok, rfl⟩ := hg
    have e := decC_enc c s hok
    rw [e.1, e.2, List.take_left]
    exact ⟨hok, rfl⟩
  · by_cases hne : l = []
    · subst hne; simp [decC] at h
    · rw [(good_not l hne hg).1] at h; omega
theorem chrL_ok (l : List UInt8) : encOk (chrL l) = true ∧ 0 < chrL l := by
  unfold chrL
  by_cases h : decC l ≤ 0
  · rw [if_pos h]; decide
  · rw [if_neg h]; exact ⟨(decC_ok l (by omega)).1, by omega⟩
theorem charsL_ok : ∀ (n : Nat) (l : List UInt8), l.length ≤ n → ∀ c ∈ charsL l, encOk c = true ∧ 0 < c
  | 0, l, h => by
    have : l = [] := List.eq_nil_of_length_eq_zero (by omega)
    subst this; simp [charsL_nil]
  | n + 1, l, h => by
    by_cases hne : l = []
    · subst hne; simp [charsL_nil]
    · have hd := decN_pos l hne
      rw [charsL_step l hne]
      intro c hc
      rcases List.mem_cons.1 hc with rfl | hc
      · exact chrL_ok l
      · exact charsL_ok n _ (by rw [List.length_drop]; omega) c hc
theorem charsL_len : ∀ (n : Nat) (l : List UInt8), l.length ≤ n → (charsL l).length ≤ l.length
  | 0, l, h => by
    have : l = [] := List.eq_nil_of_length_eq_zero (by omega)
    subst this; simp [charsL_nil]
  | n + 1, l, h => by
    by_cases hne : l = []
    · subst hne; simp [charsL_nil]
    · have hd := decN_pos l hne
      rw [charsL_step l hne]
      have := charsL_len n (l.drop (decN l)) (by rw [List.length_drop]; omega)
      rw [List.length_drop] at this
      rw [List.length_cons]; omega
/-- characters' octets -/
def encAll (l : List Int) : List UInt8 := l.flatMap encodeRune
theorem encAll_snoc (l : List Int) (c : Int) : encAll (l ++ [c]) = encAll l ++ encodeRune c := by simp [encAll]
theorem encAll_len (l : List Int) : (encAll l).length ≤ 4 * l.length := by
  induction l with
  | nil => simp [encAll]
  | cons c l ih =>
    have := encodeRune_len c
    have e : encAll (c :: l) = encodeRune c ++ encAll l := by simp [encAll]
    rw [e, List.length_append, List.length_cons]; omega
/-- a text repaired -/
def repairL (l : List UInt8) : List UInt8 := encAll (charsL l)
theorem charsL_enc (c : Int) (s : List UInt8) (h : encOk c = true) (h0 : 0 < c) : charsL (encodeRune c ++ s) = c :: charsL s := by
  have e := decC_enc c s h
  rw [charsL_step _ (by simp [encodeRune_ne c]), e.2, List.drop_left]
  unfold chrL
  rw [e.1, if_neg (by omega)]
theorem charsL_encAll : ∀ (l : List Int), (∀ c ∈ l, encOk c = true ∧ 0 < c) → charsL (encAll l) = l
  | [], _ => rfl
  | c :: l, h => by
    have e : encAll (c :: l) = encodeRune c ++ encAll l := by simp [encAll]
    rw [e, charsL_enc c _ (h c (by simp)).1 (h c (by simp)).2, charsL_encAll l (fun d hd => h d (by simp [hd]))]
theorem repair_twice (l : List UInt8) : repairL (repairL l) = repairL l := by
  unfold repairL
  rw [charsL_encAll _ (charsL_ok _ l (Nat.le_refl _))]
theorem repair_count (l : List UInt8) : (charsL (repairL l)).length = (charsL l).length := by
  unfold repairL
  rw [charsL_encAll _ (charsL_ok _ l (Nat.le_refl _))]
theorem validD_enc (c : Int) (s : List UInt8) (h : encOk c = true) : validD (encodeRune c ++ s) = validD s := by
  rw [validD_step _ (by simp [encodeRune_ne c]), if_neg (enc_notbad c h s), decode_encode c s h, List.drop_left]
theorem validD_encAll : ∀ (l : List Int), (∀ c ∈ l, encOk c = true) → validD (encAll l) = true
  | [], _ => by rfl
  | c :: l, h => by
    have e : encAll (c :: l) = encodeRune c ++ encAll l := by simp [encAll]
    rw [e, validD_enc c _ (h c (by simp)), validD_encAll l (fun d hd => h d (by simp [hd]))]
theorem repair_valid (l : List UInt8) : validD (repairL l) = true := validD_encAll _ (fun c hc => (charsL_ok _ l (Nat.le_refl _) c hc).1)
/-- a character's octets hold no 0 -/
theorem enc_no0 (c : Int) (h : encOk c = true) (h0 : 0 < c) : (0 : UInt8) ∉ encodeRune c := by
  have hc := of_decide_eq_true h
  intro hm
  unfold encodeRune at hm
  rw [List.mem_map] at hm
  obtain ⟨x, hx, hx0⟩ := hm
  have hb := encodeRuneZ_byte c x hx
  have : x = 0 := by
    have := congrArg UInt8.toNat hx0
    simp at this; omega
  subst this
  have hcases : (0 ≤ c ∧ c ≤ 127) ∨ (128 ≤ c ∧ c ≤ 2047) ∨ ((2048 ≤ c ∧ c < 55296) ∨ (57343 < c ∧ c ≤ 65535)) ∨ (65536 ≤ c ∧ c ≤ 1114111) := by omega
  rcases hcases with hr | hr | hr | hr
  · rw [encodeRuneZ_one hr.1 hr.2] at hx; simp at hx; omega
  · rw [encodeRuneZ_two hr.1 hr.2] at hx; simp at hx; omega
  · rw [encodeRuneZ_three hr] at hx; simp at hx; omega
  · rw [encodeRuneZ_four hr.1 hr.2] at hx; simp at hx; omega
theorem repair_no0 (l : List UInt8) : (0 : UInt8) ∉ repairL l := by
  unfold repairL encAll
  intro hm
  rw [List.mem_flatMap] at hm
  obtain ⟨c, hc, h⟩ := hm
  have := charsL_ok _ l (Nat.le_refl _) c hc
  exact enc_no0 c this.1 this.2 h
theorem repair_same : ∀ (n : Nat) (l : List UInt8), l.length ≤ n → validD l = true → (0 : UInt8) ∉ l → repairL l = l
  | 0, l, h, _, _ => by
    have : l = [] := List.eq_nil_of_length_eq_zero (by omega)
    subst this; rfl
  | n + 1, l, h, hv, h0 => by
    by_cases hne : l = []
    · subst hne; rfl
    · have hd := decN_pos l hne
      rw [validD_step l hne] at hv
      by_cases hb : (decodeL l).1 = 65533 ∧ (decodeL l).2 = 1
      · rw [if_pos hb] at hv; cases hv
      · rw [if_neg hb] at hv
        have e1 : decC l = ((decodeL l).1 : Int) := by unfold decC; rw [if_neg hne, if_neg hb]
        have e2 : decN l = (decodeL l).2 := by unfold decN; rw [if_neg hne]
        rw [← e2] at hv
        have e3 := decC_ok l (by omega)
        have hpos : 0 < decC l := by
          rcases Int.lt_or_le 0 (decC l) with h | h
          · exact h
          · exfalso
            have e : decC l = 0 := by omega
            rw [e] at e3
            have : (0 : UInt8) ∈ l.take (decN l) := by rw [← e3.2]; decide
            exact h0 (List.mem_of_mem_take this)
        unfold repairL
        rw [charsL_step l hne]
        have e4 : chrL l = decC l := by unfold chrL; rw [if_neg (by omega)]
        have e5 : encAll (chrL l :: charsL (l.drop (decN l))) = encodeRune (chrL l) ++ repairL (l.drop (decN l)) := by simp [encAll, repairL]
        rw [e5, e4, e3.2, repair_same n _ (by rw [List.length_drop]; omega) hv (fun hm => h0 (List.mem_of_mem_drop hm)), List.take_append_drop]
end Go.Proofs.YtihgmgpcdodknaaDoor
/- Plain: character references, on lists of octets. No program in sight. -/
namespace Go.Proofs.YtihgmgpcdodknaaDoor
open Go.RowKit Go.Lib

def isD (c : UInt8) : Bool := decide (48 ≤ c.toNat) && decide (c.toNat ≤ 57)
def isH (c : UInt8) : Bool := isD c || (decide (97 ≤ c.toNat) && decide (c.toNat ≤ 102)) || (decide (65 ≤ c.toNat) && decide (c.toNat ≤ 70))
def digP (hex : Bool) (c : UInt8) : Bool := if hex then isH c else isD c
def dval (c : UInt8) : Nat := if isD c then c.toNat - 48 else if c.toNat ≤ 70 then c.toNat - 55 else c.toNat - 87
def baseN (hex : Bool) : Nat := if hex then 16 else 10
def valN (base : Nat) (l : List UInt8) : Nat := l.foldl (fun n c => n * base + dval c) 0
theorem valN_snoc (base : Nat) (l : List UInt8) (c : UInt8) : valN base (l ++ [c]) = valN base l * base + dval c := by simp [valN]
/-- what a number stands for -/
def chrOf (n : Nat) : List UInt8 := if encOk (n : Int) = true ∧ n ≠ 0 then encodeRune (n : Int) else [239, 191, 189]
/-- digits and ';': what they stand for, and how many octets they are -/
def numT (hex : Bool) (t : List UInt8) : Option (List UInt8 × Nat) :=
  if 1 ≤ (t.takeWhile (digP hex)).length ∧ (t.takeWhile (digP hex)).length ≤ 7 ∧ t[(t.takeWhile (digP hex)).length]? = some 59 then
    some (chrOf (valN (baseN hex) (t.takeWhile (digP hex))), (t.takeWhile (digP hex)).length + 1) else none
def names : List (List UInt8 × UInt8) := [([97, 109, 112], 38), ([108, 116], 60), ([103, 116], 62), ([113, 117, 111, 116], 34), ([97, 112, 111, 115], 39)]
/-- the first of the names that stands ahead of ';' -/
def namedL (s : List UInt8) : Option (List UInt8 × Nat) := (names.find? fun p => (38 :: (p.1 ++ [59])).isPrefixOf s).map fun p => ([p.2], p.1.length + 2)
def isX (c : UInt8) : Bool := c == 120 || c == 88
def numL : List UInt8 → List UInt8 × Nat
  | 38 :: 35 :: t =>
    match t with
    | [] => ([], 0)
    | c :: u => if isX c then (match numT true u with | some (x, k) => (x, k + 3) | none => ([], 0)) else (match numT false t with | some (x, k) => (x, k + 2) | none => ([], 0))
  | _ => ([], 0)
def oneR (s : List UInt8) : List UInt8 × Nat := match namedL s with | some r => r | none => numL s

/-- one whole reference, and what it stands for -/
def Mtch (m x : List UInt8) : Prop := (∃ p ∈ names, m = 38 :: (p.1 ++ [59]) ∧ x = [p.2]) ∨
  ∃ hex pre ds, (hex = true ∧ (pre = [120] ∨ pre = [88]) ∨ hex = false ∧ pre = []) ∧ 1 ≤ ds.length ∧ ds.length ≤ 7 ∧ ds.all (digP hex) = true ∧ m = 38 :: 35 :: (pre ++ ds ++ [59]) ∧ x = chrOf (valN (baseN hex) ds)

theorem takeWhile_stop (p : UInt8 → Bool) (ds : List UInt8) (c : UInt8) (r : List UInt8) (h : ds.all p = true) (hc : p c = false) : (ds ++ c :: r).takeWhile p = ds := by
  induction ds with
  | nil => simp [hc]
  | cons d ds ih =>
    rw [List.all_cons, Bool.and_eq_true] at h
    rw [List.cons_append, List.takeWhile_cons, h.1, if_pos rfl, ih h.2]
theorem dig_no59 (hex : Bool) : digP hex 59 = false := by cases hex <;> decide
theorem dig_noX (c : UInt8) (h : isX c = true) : isD c = false := by
  unfold isX at h
  rw [Bool.or_eq_true, beq_iff_eq, beq_iff_eq] at h
  rcases h with rfl | rfl <;> decide
theorem numT_of (hex : Bool) (ds r : List UInt8) (h1 : 1 ≤ ds.length) (h2 : ds.length ≤ 7) (h3 : ds.all (digP hex) = true) : numT hex (ds ++ [59] ++ r) = some (chrOf (valN (baseN hex) ds), ds.length + 1) := by
  unfold numT
  rw [List.append_assoc, List.singleton_append, takeWhile_stop _ ds 59 r h3 (dig_no59 hex)]
  rw [if_pos ⟨h1, h2, by simp⟩]
theorem takeWhile_split (p : UInt8 → Bool) (t : List UInt8) : t = t.takeWhile p ++ t.drop (t.takeWhile p).length ∧ (t.takeWhile p).all p = true := by
  induction t with
  | nil => simp
  | cons c t ih =>
    rw [List.takeWhile_cons]
    cases hc : p c with
    | false => simp
    | true =>
      rw [if_pos rfl]
      refine ⟨?_, ?_⟩
      · rw [List.cons_append, List.length_cons, List.drop_succ_cons, ← ih.1]
      · rw [List.all_cons, hc, ih.2]; rfl
theorem numT_some (hex : Bool) (t : List UInt8) (x : List UInt8) (k : Nat) (h : numT hex t = some (x, k)) : ∃ ds r, t = ds ++ [59] ++ r ∧ 1 ≤ ds.length ∧ ds.length ≤ 7 ∧ ds.all (digP hex) = true ∧ x = chrOf (valN (baseN hex) ds) ∧ k = ds.length + 1 := by
  unfold numT at h
  by_cases hc : 1 ≤ (t.takeWhile (digP hex)).length ∧ (t.takeWhile (digP hex)).length ≤ 7 ∧ t[(t.takeWhile (digP hex)).length]? = some 59
  · rw [if_pos hc] at h
    injection h with h
    injection h with ha hb
    have hs := takeWhile_split (digP hex) t
    obtain ⟨c1, c2, c3⟩ := hc
    have hlt : (t.takeWhile (digP hex)).length < t.length := by
      rcases Nat.lt_or_ge (t.takeWhile (digP hex)).length t.length with h' | h'
      · exact h'
      · rw [List.getElem?_eq_none h'] at c3; cases c3
    rw [List.getElem?_eq_getElem hlt] at c3
    injection c3 with c3
    refine ⟨t.takeWhile (digP hex), t.drop ((t.takeWhile (digP hex)).length + 1), ?_, c1, c2, hs.2, ha.symm, hb.symm⟩
    have := hs.1
    rw [List.drop_eq_getElem_cons hlt, c3] at this
    rw [List.append_assoc, List.singleton_append]; exact this
  · rw [if_neg hc] at h; cases h
theorem namedL_none_num (t : List UInt8) : namedL (38 :: 35 :: t) = none := by
  simp [namedL, names, List.find?, List.isPrefixOf]
theorem mtch_one (m x r : List UInt8) (h : Mtch m x) : oneR (m ++ r) = (x, m.length) := by
  rcases h with ⟨p, hp, rfl, rfl⟩ | ⟨hex, pre, ds, hx, h1, h2, h3, rfl, rfl⟩
  · simp only [names, List.mem_cons, List.not_mem_nil, or_false] at hp
    rcases hp with rfl | rfl | rfl | rfl | rfl <;> simp [oneR, namedL, names, List.find?, List.isPrefixOf]
  · unfold oneR
    have e0 : (38 :: 35 :: (pre ++ ds ++ [59])) ++ r = 38 :: 35 :: (pre ++ (ds ++ [59] ++ r)) := by simp
    rw [e0, namedL_none_num]
    show numL _ = _
    have hn := numT_of hex ds r h1 h2 h3
    rcases hx with ⟨rfl, hp⟩ | ⟨rfl, rfl⟩
    · rcases hp with rfl | rfl
      · show numL (38 :: 35 :: 120 :: (ds ++ [59] ++ r)) = _
        simp only [numL]
        rw [if_pos (by decide), hn]; simp
      · show numL (38 :: 35 :: 88 :: (ds ++ [59] ++ r)) = _
        simp only [numL]
        rw [if_pos (by decide), hn]; simp
    · cases ds with
      | nil => simp at h1
      | cons d ds =>
        have hd : isD d = true := by rw [List.all_cons, Bool.and_eq_true] at h3; exact h3.1
        have hX : isX d = false := by
          cases e : isX d with
          | false => rfl
          | true => rw [dig_noX d e] at hd; cases hd
        show numL (38 :: 35 :: d :: (ds ++ [59] ++ r)) = _
        simp only [numL]
        rw [if_neg (by rw [hX]; simp)]
        have hn' : numT false (d :: (ds ++ [59] ++ r)) = _ := hn
        rw [hn']; simp
theorem one_mtch (s : List UInt8) : (oneR s = ([], 0)) ∨ ∃ m x r, s = m ++ r ∧ Mtch m x := by
  unfold oneR
  cases hn : namedL s with
  | some q =>
    right
    unfold namedL at hn
    rw [Option.map_eq_some_iff] at hn
    obtain ⟨p, hp, _⟩ := hn
    have h1 := List.find?_some hp
    have h2 := List.mem_of_find?_eq_some hp
    rw [List.isPrefixOf_iff_prefix] at h1
    obtain ⟨r, hr⟩ := h1
    exact ⟨_, _, r, hr.symm, .inl ⟨p, h2, rfl, rfl⟩⟩
  | none =>
    show numL s = _ ∨ _
    unfold numL
    split
    · rename_i t
      split
      · exact .inl rfl
      · rename_i c u
        by_cases hx : isX c = true
        · rw [if_pos hx]
          cases hT : numT true u with
          | none => exact .inl rfl
          | some q =>
            obtain ⟨x, k⟩ := q
            right
            obtain ⟨ds, r, h0, h1, h2, h3, h4, h5⟩ := numT_some _ _ _ _ hT
            refine ⟨38 :: 35 :: ([c] ++ ds ++ [59]), x, r, by rw [h0]; simp, .inr ⟨true, [c], ds, .inl ⟨rfl, ?_⟩, h1, h2, h3, rfl, h4⟩⟩
            unfold isX at hx
            rw [Bool.or_eq_true, beq_iff_eq, beq_iff_eq] at hx
            rcases hx with rfl | rfl
            · exact .inl rfl
            · exact .inr rfl
        · rw [if_neg hx]
          cases hT : numT false (c :: u) with
          | none => exact .inl rfl
          | some q =>
            obtain ⟨x, k⟩ := q
            right
            obtain ⟨ds, r, h0, h1, h2, h3, h4, h5⟩ := numT_some _ _ _ _ hT
            exact ⟨38 :: 35 :: ([] ++ ds ++ [59]), x, r, by rw [h0]; simp, .inr ⟨false, [], ds, .inr ⟨rfl, rfl⟩, h1, h2, h3, rfl, h4⟩⟩
    · exact .inl rfl
/-- a reference's inner octets: no ';' -/
theorem mtch_shape (m x : List UInt8) (h : Mtch m x) : ∃ u, m = 38 :: (u ++ [59]) ∧ (59 : UInt8) ∉ u ∧ 1 ≤ u.length ∧ u.length ≤ 9 ∧ x ≠ [] ∧ x.length ≤ 4 := by
  rcases h with ⟨p, hp, rfl, rfl⟩ | ⟨hex, pre, ds, hx, h1, h2, h3, rfl, rfl⟩
  · simp only [names, List.mem_cons, List.not_mem_nil, or_false] at hp
    rcases hp with rfl | rfl | rfl | rfl | rfl <;> exact ⟨_, rfl, by decide, by decide, by decide, by decide, by decide⟩
  · have hd : (59 : UInt8) ∉ ds := fun hm => by
      have := List.all_eq_true.1 h3 59 hm
      rw [dig_no59] at this; cases this
    have hxx : chrOf (valN (baseN hex) ds) ≠ [] ∧ (chrOf (valN (baseN hex) ds)).length ≤ 4 := by
      unfold chrOf
      split
      · exact ⟨encodeRune_ne _, (encodeRune_len _).2⟩
      · exact ⟨by decide, by decide⟩
    have hpl : pre.length ≤ 1 ∧ (59 : UInt8) ∉ pre := by
      rcases hx with ⟨_, rfl | rfl⟩ | ⟨_, rfl⟩ <;> decide
    refine ⟨35 :: (pre ++ ds), by simp, ?_, by simp, by simp; omega, hxx.1, hxx.2⟩
    simp only [List.mem_cons, List.mem_append, not_or]
    exact ⟨by decide, hpl.2, hd⟩
theorem one_other (s : List UInt8) (h : ∀ m x r, s = m ++ r → Mtch m x → False) : oneR s = ([], 0) := by
  rcases one_mtch s with e | ⟨m, x, r, h1, h2⟩
  · exact e
  · exact (h m x r h1 h2).elim
/-- decoded -/
def decodeR : Nat → List UInt8 → List UInt8
  | 0, _ => []
  | n + 1, s => match s with
    | [] => []
    | c :: t => if 0 < (oneR (c :: t)).2 then (oneR (c :: t)).1 ++ decodeR n ((c :: t).drop (oneR (c :: t)).2) else c :: decodeR n t
def decL (s : List UInt8) : List UInt8 := decodeR s.length s
theorem decodeR_more : ∀ (n m : Nat) (s : List UInt8), s.length ≤ n → s.length ≤ m → decodeR n s = decodeR m s
  | 0, m, s, h1, h2 => by
    obtain rfl : s = [] := List.eq_nil_of_length_eq_zero (by omega)
    cases m <;> rfl
  | n + 1, 0, s, h1, h2 => by
    obtain rfl : s = [] := List.eq_nil_of_length_eq_zero (by omega)
    rfl
  | n + 1, m + 1, [], h1, h2 => rfl
  | n + 1, m + 1, c :: t, h1, h2 => by
    simp only [List.length_cons] at h1 h2
    simp only [decodeR]
    by_cases h : 0 < (oneR (c :: t)).2
    · rw [if_pos h, if_pos h, decodeR_more n m _ (by rw [List.length_drop, List.length_cons]; omega) (by rw [List.length_drop, List.length_cons]; omega)]
    · rw [if_neg h, if_neg h, decodeR_more n m t (by omega) (by omega)]
theorem decL_nil : decL [] = [] := rfl
theorem decL_cons (c : UInt8) (t : List UInt8) : decL (c :: t) = if 0 < (oneR (c :: t)).2 then (oneR (c :: t)).1 ++ decL ((c :: t).drop (oneR (c :: t)).2) else c :: decL t := by
  unfold decL
  simp only [List.length_cons, decodeR]
  by_cases h : 0 < (oneR (c :: t)).2
  · rw [if_pos h, if_pos h, decodeR_more t.length _ _ (by rw [List.length_drop, List.length_cons]; omega) (Nat.le_refl _)]
  · rw [if_neg h, if_neg h]
theorem decL_mtch (m x r : List UInt8) (h : Mtch m x) : decL (m ++ r) = x ++ decL r := by
  have h1 := mtch_one m x r h
  obtain ⟨u, hu, _⟩ := mtch_shape m x h
  cases m with
  | nil => cases hu
  | cons c t =>
    rw [List.cons_append] at h1 ⊢
    rw [decL_cons, h1, if_pos (by simp)]
    simp
theorem decL_step (c : UInt8) (t : List UInt8) (h : oneR (c :: t) = ([], 0)) : decL (c :: t) = c :: decL t := by
  rw [decL_cons, h, if_neg (by simp)]
theorem one_notamp (c : UInt8) (t : List UInt8) (h : c ≠ 38) : oneR (c :: t) = ([], 0) := by
  refine one_other _ (fun m x r e hm => ?_)
  obtain ⟨u, hu, _⟩ := mtch_shape m x hm
  rw [hu] at e
  injection e with e1 e2
  exact h e1
/-- an octet escaped -/
def escB (c : UInt8) : List UInt8 :=
  if c = 38 then [38, 97, 109, 112, 59] else if c = 60 then [38, 108, 116, 59] else if c = 62 then [38, 103, 116, 59] else if c = 34 then [38, 35, 51, 52, 59] else if c = 39 then [38, 35, 51, 57, 59] else if c = 43 then [38, 35, 52, 51, 59] else [c]
def escA (l : List UInt8) : List UInt8 := l.flatMap escB
def escL (l : List UInt8) : List UInt8 := escA (repairL l)
theorem escA_snoc (l : List UInt8) (c : UInt8) : escA (l ++ [c]) = escA l ++ escB c := by simp [escA]
theorem escB_len (c : UInt8) : (escB c).length ≤ 5 := by unfold escB; repeat' split
                                                         all_goals simp
theorem escA_len (l : List UInt8) : (escA l).length ≤ 5 * l.length := by
  induction l with
  | nil => simp [escA]
  | cons c l ih =>
    have := escB_len c
    have e : escA (c :: l) = escB c ++ escA l := by simp [escA]
    rw [e, List.length_append, List.length_cons]; omega
theorem dec_escB (c : UInt8) (r : List UInt8) : decL (escB c ++ r) = c :: decL r := by
  have num : ∀ (d e c : UInt8), isD d = true → isD e = true → chrOf (valN 10 [d, e]) = [c] → Mtch [38, 35, d, e, 59] [c] := fun d e c hd he hc =>
    .inr ⟨false, [], [d, e], .inr ⟨rfl, rfl⟩, by simp, by simp, by simp [digP, hd, he], rfl, hc.symm⟩
  unfold escB
  split
  · rename_i h; subst h; exact decL_mtch _ [38] r (.inl ⟨([97, 109, 112], 38), by simp [names], rfl, rfl⟩)
  split
  · rename_i h; subst h; exact decL_mtch _ [60] r (.inl ⟨([108, 116], 60), by simp [names], rfl, rfl⟩)
  split
  · rename_i h; subst h; exact decL_mtch _ [62] r (.inl ⟨([103, 116], 62), by simp [names], rfl, rfl⟩)
  split
  · rename_i h; subst h; exact decL_mtch _ [34] r (num 51 52 34 (by decide) (by decide) (by decide))
  split
  · rename_i h; subst h; exact decL_mtch _ [39] r (num 51 57 39 (by decide) (by decide) (by decide))
  split
  · rename_i h; subst h; exact decL_mtch _ [43] r (num 52 51 43 (by decide) (by decide) (by decide))
  · rename_i h _ _ _ _ _
    rw [List.singleton_append, decL_step c r (one_notamp c r h)]
theorem dec_escA (l r : List UInt8) : decL (escA l ++ r) = l ++ decL r := by
  induction l with
  | nil => rfl
  | cons c l ih =>
    have e : escA (c :: l) ++ r = escB c ++ (escA l ++ r) := by simp [escA]
    rw [e, dec_escB, ih]; rfl
theorem dec_esc (l : List UInt8) : decL (escL l) = repairL l := by
  have := dec_escA (repairL l) []
  rw [List.append_nil, decL_nil, List.append_nil] at this
  exact this
def cleanL (l : List UInt8) : Bool := !hasB l 60 && !hasB l 62 && !hasB l 34 && !hasB l 39
theorem escB_clean (c d : UInt8) (h : d ∈ escB c) : d ≠ 60 ∧ d ≠ 62 ∧ d ≠ 34 ∧ d ≠ 39 := by
  revert h
  unfold escB
  split
  · intro h; revert d; decide
  split
  · intro h; revert d; decide
  split
  · intro h; revert d; decide
  split
  · intro h; revert d; decide
  split
  · intro h; revert d; decide
  split
  · intro h; revert d; decide
  · intro h
    rw [List.mem_singleton] at h
    subst h
    exact ⟨by assumption, by assumption, by assumption, by assumption⟩
theorem esc_clean (l : List UInt8) : cleanL (escL l) = true := by
  have key : ∀ d ∈ escL l, d ≠ 60 ∧ d ≠ 62 ∧ d ≠ 34 ∧ d ≠ 39 := by
    intro d hd
    unfold escL escA at hd
    rw [List.mem_flatMap] at hd
    obtain ⟨c, _, h⟩ := hd
    exact escB_clean c d h
  unfold cleanL
  rw [hasB_false (fun h => (key _ h).1 rfl), hasB_false (fun h => (key _ h).2.1 rfl), hasB_false (fun h => (key _ h).2.2.1 rfl), hasB_false (fun h => (key _ h).2.2.2 rfl)]
  rfl
end Go.Proofs.YtihgmgpcdodknaaDoor
/- Plain: where in a style (package cssscan), on lists of octets. No program in sight. -/
namespace Go.Proofs.YtihgmgpcdodknaaDoor
open Go.RowKit

def isLetter (c : UInt8) : Bool := (97 ≤ c && c ≤ 122) || (65 ≤ c && c ≤ 90)
def isDigit (c : UInt8) : Bool := 48 ≤ c && c ≤ 57
def isWordy (c : UInt8) : Bool := isLetter c || isDigit c || c == 45 || c == 95
def isBlank (c : UInt8) : Bool := c == 32 || c == 9 || c == 10 || c == 12 || c == 13

def cCode (w : List UInt8) (c : UInt8) : Int × List UInt8 :=
  if isWordy c then (if w = [63] then (0, [63]) else if w.length < 16 then (0, w ++ [lowB c]) else (0, w))
  else if c = 40 then (if w = [117, 114, 108] then (8, []) else if w = [63] then (9, []) else (0, []))
  else if c = 92 then (9, []) else if c = 34 then (1, []) else if c = 39 then (2, []) else if c = 47 then (5, []) else (0, [])
def cQuoted (p : Int) (c : UInt8) : Int :=
  if (c = 34 ∧ p = 1) ∨ (c = 39 ∧ p = 2) then 0 else if c = 92 then p + 2 else if c = 10 ∨ c = 13 then 9 else p
def cRemark (p : Int) (c : UInt8) : Int × List UInt8 :=
  if p = 5 then (if c = 42 then (6, []) else cCode [] c) else if c = 42 then (7, []) else if p = 7 ∧ c = 47 then (0, []) else (6, [])
def cStep (p : Int) (w : List UInt8) (c : UInt8) : Int × List UInt8 :=
  if p = 0 then cCode w c else if p = 1 ∨ p = 2 then (cQuoted p c, []) else if p = 3 ∨ p = 4 then (p - 2, []) else
  if p = 5 ∨ p = 6 ∨ p = 7 then cRemark p c else if p = 8 then (if c = 41 then (0, []) else (8, [])) else (9, [])
def cFeed (p : Int) (w : List UInt8) (s : List UInt8) : Int × List UInt8 := s.foldl (fun x c => cStep x.1 x.2 c) (p, w)

theorem cFeed_append (p : Int) (w a b : List UInt8) : cFeed p w (a ++ b) = cFeed (cFeed p w a).1 (cFeed p w a).2 b := by
  simp [cFeed]
theorem cFeed_cons (p : Int) (w : List UInt8) (c : UInt8) (s : List UInt8) : cFeed p w (c :: s) = cFeed (cStep p w c).1 (cStep p w c).2 s := by simp [cFeed]
theorem cFeed_take (p : Int) (w s : List UInt8) (k : Nat) (h : k < s.length) :
    cFeed p w (s.take (k + 1)) = cStep (cFeed p w (s.take k)).1 (cFeed p w (s.take k)).2 s[k] := by
  rw [List.take_succ_eq_append_getElem h, cFeed_append]; simp [cFeed]
theorem cFeed_alive : (cFeed 0 [] [97, 58, 32, 34]).1 = 1 := by decide
theorem cFeed_nine (s : List UInt8) (w : List UInt8) : (cFeed 9 w s).1 = 9 := by
  induction s generalizing w with
  | nil => rfl
  | cons c s ih =>
    have e : cFeed 9 w (c :: s) = cFeed 9 [] s := by simp [cFeed, cStep]
    rw [e, ih]
theorem cFeed_eight (s : List UInt8) (h : (41 : UInt8) ∉ s) : cFeed 8 [] s = (8, []) := by
  induction s with
  | nil => rfl
  | cons c s ih =>
    have h1 : c ≠ 41 := fun e => h (by simp [e])
    have e : cFeed 8 [] (c :: s) = cFeed 8 [] s := by simp [cFeed, cStep, h1]
    rw [e, ih (fun m => h (by simp [m]))]
theorem cFeed_url (s : List UInt8) (h : (41 : UInt8) ∉ s) : (cFeed 0 [] ([97, 58, 32, 117, 82, 108, 40] ++ s)).1 = 8 ∧ (cFeed 0 [] ([97, 58, 32, 85, 82, 76, 40] ++ s ++ [41])).1 = 0 := by
  have e1 : cFeed 0 [] [97, 58, 32, 117, 82, 108, 40] = (8, []) := by decide
  have e2 : cFeed 0 [] [97, 58, 32, 85, 82, 76, 40] = (8, []) := by decide
  rw [cFeed_append, e1, cFeed_append, cFeed_append, e2, cFeed_eight s h]
  exact ⟨rfl, by decide⟩

/-- octets of styles' plain texts -/
def okCss (c : UInt8) : Bool := isLetter c || isDigit c || c == 32 || c == 46 || c == 44 || c == 37 || c == 35 || c == 43 || c == 45
theorem okCss_code (w : List UInt8) (c : UInt8) (h : okCss c = true) : (cCode w c).1 = 0 := by
  have h40 : c ≠ 40 := by rintro rfl; revert h; decide
  have h92 : c ≠ 92 := by rintro rfl; revert h; decide
  have h34 : c ≠ 34 := by rintro rfl; revert h; decide
  have h39 : c ≠ 39 := by rintro rfl; revert h; decide
  have h47 : c ≠ 47 := by rintro rfl; revert h; decide
  unfold cCode
  rw [if_neg h40, if_neg h92, if_neg h34, if_neg h39, if_neg h47]
  repeat' split
  all_goals rfl
theorem cFeed_plain (s : List UInt8) : ∀ (w : List UInt8), (∀ c ∈ s, okCss c = true) → (cFeed 0 w s).1 = 0 := by
  induction s with
  | nil => intro w _; rfl
  | cons c s ih =>
    intro w h
    rw [cFeed_cons]
    have e : (cStep 0 w c).1 = 0 := by simp [cStep]; exact okCss_code w c (h c (by simp))
    rw [e]
    exact ih _ (fun d hd => h d (by simp [hd]))
theorem cFeed_marker (w : List UInt8) : (cFeed 0 w [90, 103, 111, 116, 109, 112, 108, 90]).1 = 0 := cFeed_plain _ w (by decide)

def sExpr : List UInt8 := [101, 120, 112, 114, 101, 115, 115, 105, 111, 110]
def sUrl : List UInt8 := [117, 114, 108]
def sMark : List UInt8 := [90, 103, 111, 116, 109, 112, 108, 90]
def sMore : List UInt8 := [32, 46, 44, 37, 35, 43, 45]
theorem okCss_eq (c : UInt8) : okCss c = (isLetter c || isDigit c || hasB sMore c) := by
  have : ∀ k : Fin 256, okCss (UInt8.ofNat k.val) = (isLetter (UInt8.ofNat k.val) || isDigit (UInt8.ofNat k.val) || hasB sMore (UInt8.ofNat k.val)) := by decide +kernel
  have h := this ⟨c.toNat, c.toNat_lt⟩
  simpa using h
/-- may a text stand in a style? -/
def styledL (l : List UInt8) : Bool := (low l).all okCss && (decide (l.length ≤ 4096) && decide (Lib.index (low l) sExpr < 0) && decide (Lib.index (low l) sUrl < 0))
def styleL (l : List UInt8) : List UInt8 := if styledL l then l else sMark
theorem styledL_mark : styledL sMark = true := by decide
theorem okCss_low (c : UInt8) : okCss (lowB c) = okCss c := by
  have : ∀ k : Fin 256, okCss (lowB (UInt8.ofNat k.val)) = okCss (UInt8.ofNat k.val) := by decide +kernel
  have h := this ⟨c.toNat, c.toNat_lt⟩
  simpa using h
theorem styledL_ok {l : List UInt8} (h : styledL l = true) : ∀ c ∈ l, okCss c = true := by
  intro c hc
  simp only [styledL, Bool.and_eq_true, List.all_eq_true] at h
  have := h.1 (lowB c) (List.mem_map.2 ⟨c, hc, rfl⟩)
  rwa [okCss_low] at this
theorem cFeed_style (w l : List UInt8) : (cFeed 0 w (styleL l)).1 = 0 := by
  unfold styleL
  split
  · rename_i h; exact cFeed_plain _ w (styledL_ok h)
  · exact cFeed_plain _ w (by decide)

end Go.Proofs.YtihgmgpcdodknaaDoor
/- Plain: the tokens of a text (package tokens), on lists of octets. No program in sight. -/
namespace Go.Proofs.YtihgmgpcdodknaaDoor
open Go.RowKit

abbrev Att := List UInt8 × List UInt8
/-- a token -/
structure Tk where
  k : Int
  n : List UInt8
  x : List UInt8
  ats : List Att
  c : Bool

/-! ### The attributes of a tag -/
/-- where in a tag, behind its name: ahead of an attribute, in its name, behind that, behind =, behind / -/
inductive Sta where
  | bef
  | nam (n : List UInt8)
  | aft (n : List UInt8)
  | wan (n : List UInt8)
  | sla
/-- what comes of it -/
inductive Mov where
  | fail
  | done (as : List Att) (cl : Bool) (r : List UInt8)
  | go (st : Sta) (l : List UInt8) (as : List Att)
def bareC (c : UInt8) : Bool := !isBlank c && c != 62
def atStep : Sta → List UInt8 → List Att → Mov
  | _, [], _ => .fail
  | .bef, c :: r, as => if isBlank c then .go .bef r as else if c = 47 then .go .sla r as else if c = 62 then .done as false r else .go (.nam [lowB c]) r as
  | .nam n, c :: r, as => if isBlank c then .go (.aft n) r as else if c = 61 then .go (.wan n) r as else if c = 47 ∨ c = 62 then .go .bef (c :: r) (as ++ [(n, [])]) else .go (.nam (n ++ [lowB c])) r as
  | .aft n, c :: r, as => if isBlank c then .go (.aft n) r as else if c = 61 then .go (.wan n) r as else .go .bef (c :: r) (as ++ [(n, [])])
  | .wan n, c :: r, as => if isBlank c then .go (.wan n) r as else if c = 62 then .go .bef (c :: r) (as ++ [(n, [])])
    else if c = 34 ∨ c = 39 then (if Lib.indexByte r c < 0 then .fail else .go .bef (r.drop ((Lib.indexByte r c).toNat + 1)) (as ++ [(n, decL (r.take (Lib.indexByte r c).toNat))]))
    else (if (c :: r).dropWhile bareC = [] then .fail else .go .bef ((c :: r).dropWhile bareC) (as ++ [(n, decL ((c :: r).takeWhile bareC))]))
  | .sla, c :: r, as => if c = 62 then .done as true r else .go .bef (c :: r) as
def wtS : Sta → List UInt8 → Nat
  | .bef, l => 2 * l.length
  | _, l => 2 * l.length + 1
theorem dropW_le (p : UInt8 → Bool) (l : List UInt8) : (l.dropWhile p).length ≤ l.length := (List.dropWhile_sublist p).length_le
theorem atStep_lt (st : Sta) (l : List UInt8) (as : List Att) (st' : Sta) (l' : List UInt8) (as' : List Att) (h : atStep st l as = .go st' l' as') : wtS st' l' < wtS st l := by
  cases l with
  | nil => cases st <;> cases h
  | cons c r =>
    cases st with
    | bef =>
      simp only [atStep] at h
      split at h
      · cases h; simp only [wtS, List.length_cons]; omega
      · split at h
        · cases h; simp only [wtS, List.length_cons]; omega
        · split at h
          · cases h
          · cases h; simp only [wtS, List.length_cons]; omega
    | nam n =>
      simp only [atStep] at h
      split at h
      · cases h; simp only [wtS, List.length_cons]; omega
      · split at h
        · cases h; simp only [wtS, List.length_cons]; omega
        · split at h <;> (cases h; simp only [wtS, List.length_cons]; omega)
    | aft n =>
      simp only [atStep] at h
      split at h
      · cases h; simp only [wtS, List.length_cons]; omega
      · split at h <;> (cases h; simp only [wtS, List.length_cons]; omega)
    | wan n =>
      simp only [atStep] at h
      split at h
      · cases h; simp only [wtS, List.length_cons]; omega
      · split at h
        · cases h; simp only [wtS, List.length_cons]; omega
        · split at h
          · split at h
            · cases h
            · cases h; simp only [wtS, List.length_drop, List.length_cons]; omega
          · split at h
            · cases h
            · cases h
              have := dropW_le bareC (c :: r)
              simp only [wtS] at this ⊢
              omega
    | sla =>
      simp only [atStep] at h
      split at h <;> cases h
      simp only [wtS, List.length_cons]; omega
def atR : Nat → Sta → List UInt8 → List Att → Option (List Att × Bool × List UInt8)
  | 0, _, _, _ => none
  | f + 1, st, l, as => match atStep st l as with
    | .fail => none
    | .done as cl r => some (as, cl, r)
    | .go st l as => atR f st l as
theorem atR_more : ∀ (f g : Nat) (st : Sta) (l : List UInt8) (as : List Att), wtS st l < f → wtS st l < g → atR f st l as = atR g st l as := by
  intro f
  induction f with
  | zero => intro g st l as h; omega
  | succ f ih =>
    intro g st l as h1 h2
    cases g with
    | zero => omega
    | succ g =>
      unfold atR
      cases h : atStep st l as with
      | fail => rfl
      | done as cl r => rfl
      | go st' l' as' =>
        have := atStep_lt st l as st' l' as' h
        exact ih g st' l' as' (by omega) (by omega)
/-- the attributes from here on, whether the tag is closed, what stands behind it; none: it does not end -/
def atT (st : Sta) (l : List UInt8) (as : List Att) : Option (List Att × Bool × List UInt8) := atR (wtS st l + 1) st l as
theorem atT_fail {st : Sta} {l : List UInt8} {as : List Att} (h : atStep st l as = .fail) : atT st l as = none := by unfold atT atR; rw [h]
theorem atT_done {st : Sta} {l : List UInt8} {as : List Att} {as' : List Att} {cl : Bool} {r : List UInt8} (h : atStep st l as = .done as' cl r) : atT st l as = some (as', cl, r) := by unfold atT atR; rw [h]
theorem atT_go {st st' : Sta} {l l' : List UInt8} {as as' : List Att} (h : atStep st l as = .go st' l' as') : atT st l as = atT st' l' as' := by
  have hlt := atStep_lt _ _ _ _ _ _ h
  unfold atT
  rw [atR, h]
  exact atR_more _ _ _ _ _ (by omega) (by omega)
theorem atT_le : ∀ (m : Nat) (st : Sta) (l : List UInt8) (as : List Att), wtS st l ≤ m → ∀ r, atT st l as = some r → r.2.2.length ≤ l.length := by
  intro m
  induction m with
  | zero =>
    intro st l as hm r h
    cases hs : atStep st l as with
    | fail => rw [atT_fail hs] at h; cases h
    | done as' cl r' =>
      rw [atT_done hs] at h
      cases h
      cases l with
      | nil => cases st <;> cases hs
      | cons c t => cases st <;> simp [wtS] at hm
    | go st' l' as' => have := atStep_lt _ _ _ _ _ _ hs; omega
  | succ m ih =>
    intro st l as hm r h
    cases hs : atStep st l as with
    | fail => rw [atT_fail hs] at h; cases h
    | done as' cl r' =>
      rw [atT_done hs] at h
      cases h
      simp only
      cases l with
      | nil => cases st <;> cases hs
      | cons c t =>
        cases st with
        | bef =>
          simp only [atStep] at hs
          split at hs
          · cases hs
          · split at hs
            · cases hs
            · split at hs
              · cases hs; simp
              · cases hs
        | nam n => simp only [atStep] at hs; split at hs <;> try cases hs
                   split at hs <;> try cases hs
                   split at hs <;> cases hs
        | aft n => simp only [atStep] at hs; split at hs <;> try cases hs
                   split at hs <;> cases hs
        | wan n =>
          simp only [atStep] at hs
          split at hs
          · cases hs
          · split at hs
            · cases hs
            · split at hs
              · split at hs <;> cases hs
              · split at hs <;> cases hs
        | sla => simp only [atStep] at hs
                 split at hs <;> cases hs
                 simp
    | go st' l' as' =>
      have hlt := atStep_lt _ _ _ _ _ _ hs
      rw [atT_go hs] at h
      have := ih st' l' as' (by omega) r h
      have : l'.length ≤ l.length := by
        cases st' <;> cases st <;> simp only [wtS] at hlt <;> omega
      omega

/-! ### The reader -/
def tellS (t : Tk) (L : List Tk) : Option (List Tk) := if L.length = 4096 then none else some (L ++ [t])
def toldS (x : List UInt8) (d : Bool) (L : List Tk) : Option (List Tk) :=
  if (if d then decL x else x) = [] then some L else tellS ⟨3, [], if d then decL x else x, [], false⟩ L
/-- none: too many; else: does it go on, the tokens, what is left -/
abbrev Res := Option (Bool × List Tk × List UInt8)
def nameC (c : UInt8) : Bool := !isBlank c && c != 47 && c != 62
def tagE (l : List UInt8) (L : List Tk) : Res :=
  match atT .bef (l.dropWhile nameC) [] with
  | none => some (false, L, [])
  | some (_, _, r) => (tellS ⟨2, low (l.takeWhile nameC), [], [], false⟩ L).map (true, ·, r)
def sTitle : List UInt8 := [116, 105, 116, 108, 101]
def sArea : List UInt8 := [116, 101, 120, 116, 97, 114, 101, 97]
def sStyle : List UInt8 := [115, 116, 121, 108, 101]
def sScript : List UInt8 := [115, 99, 114, 105, 112, 116]
def sBarred : List (List UInt8) := [[112, 108, 97, 105, 110, 116, 101, 120, 116], [120, 109, 112], [105, 102, 114, 97, 109, 101], [110, 111, 101, 109, 98, 101, 100], [110, 111, 102, 114, 97, 109, 101, 115], [110, 111, 115, 99, 114, 105, 112, 116]]
def elemK (n : List UInt8) : Int := if n = sTitle ∨ n = sArea then 1 else if n = sStyle then 2 else if n = sScript then 3 else if n ∈ sBarred then 4 else 0
def startsB (l p : List UInt8) : Bool := decide (p.length ≤ l.length) && low (l.take p.length) == low p
def endC (c : UInt8) : Bool := isBlank c || c == 47 || c == 62
def endsB (nm l : List UInt8) : Bool := startsB l (60 :: 47 :: nm) && (match l[nm.length + 2]? with | some c => endC c | none => false)
/-- where a raw text ends -/
def rawN (nm : List UInt8) : List UInt8 → Option Nat
  | [] => none
  | c :: r => if c = 60 ∧ endsB nm (c :: r) = true then some 0 else (rawN nm r).map (· + 1)
def rawS (k : Int) (nm l : List UInt8) (L : List Tk) : Res :=
  match rawN nm l with
  | none => (toldS l (k == 1) L).map (true, ·, [])
  | some j => (toldS (l.take j) (k == 1) L).bind (tagE (l.drop (j + 2)))
def tagS (l : List UInt8) (L : List Tk) : Res :=
  match atT .bef (l.dropWhile nameC) [] with
  | none => some (false, L, [])
  | some (as, cl, r) => (tellS ⟨1, low (l.takeWhile nameC), [], as, cl⟩ L).bind fun L =>
    if elemK (low (l.takeWhile nameC)) < 1 ∨ 3 < elemK (low (l.takeWhile nameC)) then some (true, L, r) else rawS (elemK (low (l.takeWhile nameC))) (low (l.takeWhile nameC)) r L
def bogusS (l : List UInt8) : List UInt8 := if Lib.indexByte l 62 < 0 then [] else l.drop ((Lib.indexByte l 62).toNat + 1)
def bangS (l : List UInt8) (L : List Tk) : Option (List Tk × List UInt8) :=
  if [45, 45].isPrefixOf l then
    (if Lib.index (l.drop 2) [45, 45, 62] < 0 then (tellS ⟨4, [], l.drop 2, [], false⟩ L).map (·, [])
     else (tellS ⟨4, [], (l.drop 2).take (Lib.index (l.drop 2) [45, 45, 62]).toNat, [], false⟩ L).map (·, (l.drop 2).drop ((Lib.index (l.drop 2) [45, 45, 62]).toNat + 3)))
  else some (L, bogusS l)
/-- behind < : is it no text? -/
def opensB : List UInt8 → Bool
  | [] => false
  | c :: r => if c = 47 ∧ r = [] then false else c == 47 || c == 33 || c == 63 || isLetter c
/-- from < on -/
def markS : List UInt8 → List Tk → Res
  | _ :: c :: r, L =>
    if isLetter c then tagS (c :: r) L
    else if c = 33 then (bangS r L).map fun p => (true, p.1, p.2)
    else if c = 63 then some (true, L, bogusS (c :: r))
    else match r with
      | [] => some (true, L, [])
      | d :: r' => if isLetter d then tagE (d :: r') L else if d = 62 then some (true, L, r') else some (true, L, bogusS (d :: r'))
  | _, L => some (true, L, [])
theorem markS_cons (h c : UInt8) (r : List UInt8) (L : List Tk) : markS (h :: c :: r) L =
    if isLetter c then tagS (c :: r) L
    else if c = 33 then (bangS r L).map fun p => (true, p.1, p.2)
    else if c = 63 then some (true, L, bogusS (c :: r))
    else match r with
      | [] => some (true, L, [])
      | d :: r' => if isLetter d then tagE (d :: r') L else if d = 62 then some (true, L, r') else some (true, L, bogusS (d :: r')) := rfl
/-- so much text -/
def scanN : List UInt8 → Nat
  | [] => 0
  | c :: r => if c = 60 ∧ opensB r = true then 0 else scanN r + 1
theorem scanN_le : ∀ l : List UInt8, scanN l ≤ l.length
  | [] => Nat.le_refl _
  | c :: r => by
    have := scanN_le r
    rw [scanN, List.length_cons]
    split <;> omega
theorem tagE_le (l : List UInt8) (L : List Tk) (r : Bool × List Tk × List UInt8) (h : tagE l L = some r) : r.2.2.length ≤ l.length := by
  unfold tagE at h
  split at h
  · cases h; simp
  · rename_i as cl r' he
    have h1 := atT_le _ _ _ _ (Nat.le_refl _) _ he
    have h2 := dropW_le nameC l
    unfold tellS at h
    split at h <;> cases h
    simp only at h1 ⊢
    omega
theorem rawS_le (k : Int) (nm l : List UInt8) (L : List Tk) (r : Bool × List Tk × List UInt8) (h : rawS k nm l L = some r) : r.2.2.length ≤ l.length := by
  unfold rawS at h
  split at h
  · obtain ⟨x, _, rfl⟩ := Option.map_eq_some_iff.1 h
    simp
  · obtain ⟨x, _, h⟩ := Option.bind_eq_some_iff.1 h
    have := tagE_le _ _ _ h
    rw [List.length_drop] at this
    omega
theorem tagS_le (l : List UInt8) (L : List Tk) (r : Bool × List Tk × List UInt8) (h : tagS l L = some r) : r.2.2.length ≤ l.length := by
  unfold tagS at h
  split at h
  · cases h; simp
  · rename_i as cl r' he
    have h1 := atT_le _ _ _ _ (Nat.le_refl _) _ he
    have h2 := dropW_le nameC l
    simp only at h1
    obtain ⟨x, _, h⟩ := Option.bind_eq_some_iff.1 h
    split at h
    · cases h; simp only; omega
    · have := rawS_le _ _ _ _ _ h
      omega
theorem bogusS_le (l : List UInt8) : (bogusS l).length ≤ l.length := by
  unfold bogusS
  split
  · simp
  · rw [List.length_drop]; omega
theorem bangS_le (l : List UInt8) (L : List Tk) (r : List Tk × List UInt8) (h : bangS l L = some r) : r.2.length ≤ l.length := by
  unfold bangS at h
  split at h
  · split at h
    · obtain ⟨x, _, rfl⟩ := Option.map_eq_some_iff.1 h
      simp
    · obtain ⟨x, _, rfl⟩ := Option.map_eq_some_iff.1 h
      simp only [List.length_drop]; omega
  · cases h; exact bogusS_le l
theorem markS_lt (l : List UInt8) (L : List Tk) (r : Bool × List Tk × List UInt8) (hl : l ≠ []) (h : markS l L = some r) : r.2.2.length < l.length := by
  match l with
  | [] => exact absurd rfl hl
  | [_] => cases h; simp
  | x0 :: c :: t =>
    rw [markS_cons] at h
    split at h
    · have := tagS_le _ _ _ h
      simp only [List.length_cons] at this ⊢; omega
    · split at h
      · obtain ⟨x, hx, rfl⟩ := Option.map_eq_some_iff.1 h
        have := bangS_le _ _ _ hx
        simp only [List.length_cons]; omega
      · split at h
        · cases h
          have := bogusS_le (c :: t)
          simp only [List.length_cons] at this ⊢; omega
        · match t with
          | [] => cases h; simp
          | d :: t' =>
            simp only at h
            split at h
            · have := tagE_le _ _ _ h
              simp only [List.length_cons] at this ⊢; omega
            · split at h
              · cases h; simp only [List.length_cons]; omega
              · cases h
                have := bogusS_le (d :: t')
                simp only [List.length_cons] at this ⊢; omega
def tokG : Nat → List UInt8 → List Tk → Option (List Tk)
  | 0, _, L => some L
  | _, [], L => some L
  | f + 1, c :: r, L =>
    (toldS ((c :: r).take (scanN (c :: r))) true L).bind fun L1 =>
      if (c :: r).drop (scanN (c :: r)) = [] then some L1 else
      match markS ((c :: r).drop (scanN (c :: r))) L1 with
      | none => none
      | some (false, L2, _) => some L2
      | some (true, L2, r') => tokG f r' L2
theorem tokG_nil (f : Nat) (L : List Tk) : tokG f [] L = some L := by cases f <;> rfl
theorem tokG_more : ∀ (f g : Nat) (l : List UInt8) (L : List Tk), l.length ≤ f → l.length ≤ g → tokG f l L = tokG g l L := by
  intro f
  induction f with
  | zero =>
    intro g l L h1 h2
    obtain rfl : l = [] := List.eq_nil_of_length_eq_zero (by omega)
    rw [tokG_nil, tokG_nil]
  | succ f ih =>
    intro g l L h1 h2
    cases l with
    | nil => rw [tokG_nil, tokG_nil]
    | cons c r =>
      cases g with
      | zero => simp at h2
      | succ g =>
        unfold tokG
        congr 1
        funext L1
        split
        · rfl
        · rename_i hne
          cases hm : markS ((c :: r).drop (scanN (c :: r))) L1 with
          | none => rfl
          | some x =>
            obtain ⟨b, L2, r'⟩ := x
            have := markS_lt _ _ _ hne hm
            rw [List.length_drop] at this
            simp only at this
            cases b with
            | false => rfl
            | true => exact ih g r' L2 (by omega) (by omega)
/-- the tokens of what is left, behind those that were read; none: too many -/
def tokT (l : List UInt8) (L : List Tk) : Option (List Tk) := tokG l.length l L
theorem tokT_nil (L : List Tk) : tokT [] L = some L := rfl
theorem tokT_none (l : List UInt8) (L : List Tk) (hl : l ≠ []) (h : toldS (l.take (scanN l)) true L = none) : tokT l L = none := by
  cases l with
  | nil => exact absurd rfl hl
  | cons c r => unfold tokT; rw [List.length_cons, tokG, h]; rfl
theorem tokT_end (l : List UInt8) (L L1 : List Tk) (h : toldS (l.take (scanN l)) true L = some L1) (he : l.drop (scanN l) = []) : tokT l L = some L1 := by
  cases l with
  | nil =>
    rw [tokT_nil]
    unfold toldS at h
    rw [show ([] : List UInt8).take (scanN []) = [] from rfl] at h
    have e0 : decL [] = [] := rfl
    simp only [if_true, e0] at h
    exact h
  | cons c r => unfold tokT; rw [List.length_cons, tokG, h]; show (if _ then _ else _) = _; rw [if_pos he]
theorem tokT_mark (l : List UInt8) (L L1 : List Tk) (h : toldS (l.take (scanN l)) true L = some L1) (he : l.drop (scanN l) ≠ []) :
    tokT l L = match markS (l.drop (scanN l)) L1 with | none => none | some (false, L2, _) => some L2 | some (true, L2, r') => tokT r' L2 := by
  cases l with
  | nil => exact absurd rfl he
  | cons c r =>
    unfold tokT
    rw [List.length_cons, tokG, h]
    show (if _ then _ else _) = _
    rw [if_neg he]
    cases hm : markS ((c :: r).drop (scanN (c :: r))) L1 with
    | none => rfl
    | some x =>
      obtain ⟨b, L2, r'⟩ := x
      have := markS_lt _ _ _ he hm
      rw [List.length_drop, List.length_cons] at this
      simp only at this
      cases b with
      | false => rfl
      | true => exact tokG_more _ _ _ _ (by omega) (Nat.le_refl _)
/-- the tokens of a text, and an error -/
def toks (s : List UInt8) : List Tk × Int := if s.length ≤ 65536 then (match tokT s [] with | none => ([], 3) | some L => (L, 0)) else ([], 5)
end Go.Proofs.YtihgmgpcdodknaaDoor
