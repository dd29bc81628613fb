/- Plain: characters and their octets, on lists. No program in sight. -/
import Derived.Test.YtihgmgpcdodknaaPlain
import Derived.Lib.MapLaws
import Derived.Lib.ValidLaws
import Derived.Lib.RuneBytes
import Derived.Lib.TrimUEq
set_option linter.unusedVariables false
namespace Go.Proofs.Ytihgmgpcdodknaa
open Go.RowKit Go.Lib

/-- may a number be a character's? -/
def encOk (c : Int) : Bool := decide (0 ≤ c ∧ c ≤ 1114111 ∧ ¬ (55296 ≤ c ∧ c ≤ 57343))
def encL (c : Int) : List UInt8 := if encOk c then encodeRune c else []
def encE (c : Int) : Int := if encOk c then 0 else 4
theorem encOk_valid (c : Int) : encOk c = (decide (0 ≤ c) && decide (c ≤ 1114111) && validRune c) := by
  unfold encOk validRune
  rw [Bool.eq_iff_iff]; simp; omega
/-- the first character and its width; -1: none -/
def decC (l : List UInt8) : Int := if l = [] then -1 else if (decodeL l).1 = 65533 ∧ (decodeL l).2 = 1 then -1 else ((decodeL l).1 : Int)
def decN (l : List UInt8) : Nat := if l = [] then 0 else (decodeL l).2

theorem enc_getD (c : Int) (s : List UInt8) (k : Nat) : ((encodeRune c ++ s).getD k 0).toNat = if h : k < (encodeRuneZ c).length then ((encodeRuneZ c)[k]).toNat else (s.getD (k - (encodeRuneZ c).length) 0).toNat := by
  have hl : (encodeRune c).length = (encodeRuneZ c).length := by simp [encodeRune]
  by_cases h : k < (encodeRuneZ c).length
  · rw [dif_pos h]
    have hb := encodeRuneZ_byte c ((encodeRuneZ c)[k]) (List.getElem_mem h)
    simp [List.getD_eq_getElem?_getD, List.getElem?_append, h, encodeRune]
    omega
  · rw [dif_neg h]
    simp [List.getD_eq_getElem?_getD, List.getElem?_append, hl, h]

theorem dec1 (k n b1 b2 b3 : Nat) (h : k < 128) : decodeN n k b1 b2 b3 = (k, 1) := by
  unfold decodeN; rw [if_pos h]
theorem dec2 (k n b0 b1 b2 b3 : Nat) (h : 128 ≤ k ∧ k ≤ 2047) (hn : 2 ≤ n) (e0 : b0 = 192 + k / 64) (e1 : b1 = 128 + k % 64) : decodeN n b0 b1 b2 b3 = (k, 2) := by
  unfold decodeN
  rw [if_neg (by omega), if_pos (by omega), if_pos (by omega)]
  congr 1; omega
theorem dec3 (k n b0 b1 b2 b3 : Nat) (h : (2048 ≤ k ∧ k < 55296) ∨ (57343 < k ∧ k ≤ 65535)) (hn : 3 ≤ n) (e0 : b0 = 224 + k / 4096) (e1 : b1 = 128 + k / 64 % 64) (e2 : b2 = 128 + k % 64) : decodeN n b0 b1 b2 b3 = (k, 3) := by
  unfold decodeN
  have e : b0 % 16 * 4096 + b1 % 64 * 64 + b2 % 64 = k := by omega
  rw [if_neg (by omega), if_neg (by omega), if_pos (by omega), e, if_pos (by omega)]
theorem dec4 (k n b0 b1 b2 b3 : Nat) (h : 65536 ≤ k ∧ k ≤ 1114111) (hn : 4 ≤ n) (e0 : b0 = 240 + k / 262144) (e1 : b1 = 128 + k / 4096 % 64) (e2 : b2 = 128 + k / 64 % 64) (e3 : b3 = 128 + k % 64) : decodeN n b0 b1 b2 b3 = (k, 4) := by
  unfold decodeN
  have e : b0 % 8 * 262144 + b1 % 64 * 4096 + b2 % 64 * 64 + b3 % 64 = k := by omega
  rw [if_neg (by omega), if_neg (by omega), if_neg (by omega), if_pos (by omega), e, if_pos (by omega)]

theorem decode_encode (c : Int) (s : List UInt8) (h : encOk c = true) : decodeL (encodeRune c ++ s) = (c.toNat, (encodeRune c).length) := by
  have hc := of_decide_eq_true h
  have hl : (encodeRune c).length = (encodeRuneZ c).length := by simp [encodeRune]
  rw [decodeL_N, enc_getD, enc_getD, enc_getD, enc_getD, List.length_append, hl]
  have hcases : (0 ≤ c ∧ c ≤ 127) ∨ (128 ≤ c ∧ c ≤ 2047) ∨ ((2048 ≤ c ∧ c < 55296) ∨ (57343 < c ∧ c ≤ 65535)) ∨ (65536 ≤ c ∧ c ≤ 1114111) := by omega
  rcases hcases with hr | hr | hr | hr
  · rw [encodeRuneZ_one hr.1 hr.2]
    exact dec1 _ _ _ _ _ (by simp; omega)
  · rw [encodeRuneZ_two hr.1 hr.2]
    exact dec2 _ _ _ _ _ _ (by omega) (by simp) (by simp; omega) (by simp; omega)
  · rw [encodeRuneZ_three hr]
    exact dec3 _ _ _ _ _ _ (by omega) (by simp) (by simp; omega) (by simp; omega) (by simp; omega)
  · rw [encodeRuneZ_four hr.1 hr.2]
    exact dec4 _ _ _ _ _ _ (by omega) (by simp) (by simp; omega) (by simp; omega) (by simp; omega) (by simp; omega)
theorem encodeRune_ne (c : Int) : encodeRune c ≠ [] := by
  have h := (encodeRuneZ_length c).1
  intro e
  have : (encodeRune c).length = 0 := by rw [e]; rfl
  have hl : (encodeRune c).length = (encodeRuneZ c).length := by simp [encodeRune]
  omega
theorem encodeRune_len (c : Int) : 1 ≤ (encodeRune c).length ∧ (encodeRune c).length ≤ 4 := by
  have h := encodeRuneZ_length c
  simp [encodeRune]; omega
theorem enc_notbad (c : Int) (h : encOk c = true) (s : List UInt8) : ¬ ((decodeL (encodeRune c ++ s)).1 = 65533 ∧ (decodeL (encodeRune c ++ s)).2 = 1) := by
  rw [decode_encode c s h]
  rintro ⟨h1, h2⟩
  simp only at h1 h2
  have : c = 65533 := by omega
  subst this
  have : (encodeRune 65533).length = 3 := by decide
  omega
theorem valid_enc (c : Int) (h : encOk c = true) : validD (encodeRune c) = true := by
  have e := enc_notbad c h []
  have e2 := decode_encode c [] h
  rw [List.append_nil] at e e2
  rw [validD_step _ (encodeRune_ne c), if_neg e, e2, List.drop_length]
  rfl
theorem decC_enc (c : Int) (s : List UInt8) (h : encOk c = true) : decC (encodeRune c ++ s) = c ∧ decN (encodeRune c ++ s) = (encodeRune c).length := by
  have hn : encodeRune c ++ s ≠ [] := by simp [encodeRune_ne c]
  unfold decC decN
  rw [if_neg hn, if_neg hn, if_neg (enc_notbad c h s), decode_encode c s h]
  have hc := of_decide_eq_true h
  exact ⟨by simp; omega, rfl⟩
end Go.Proofs.Ytihgmgpcdodknaa
