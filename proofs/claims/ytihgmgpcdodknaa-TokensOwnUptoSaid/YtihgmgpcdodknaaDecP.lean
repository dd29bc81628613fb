/- Plain: when a list of octets begins with a character, as the pages say it; what a decoder tells then. No program in sight. -/
import Derived.Test.YtihgmgpcdodknaaUtfP
set_option linter.unusedVariables false
namespace Go.Proofs.Ytihgmgpcdodknaa
open Go.RowKit Go.Lib

def szI (n : Int) : Int := if n < 128 then 1 else if 194 ≤ n ∧ n < 224 then 2 else if 224 ≤ n ∧ n < 240 then 3 else if 240 ≤ n ∧ n < 245 then 4 else 0
/-- what a first octet brings -/
def headI (n : Int) : Int := if n < 128 then n else if n < 224 then n - 192 else if n < 240 then n - 224 else n - 240
def foldC (c : Int) (l : List UInt8) : Int := l.foldl (fun c b => c * 64 + (b.toNat : Int) - 128) c
/-- does a list begin with a character? -/
def Good (l : List UInt8) : Prop := ∃ c s, encOk c = true ∧ l = encodeRune c ++ s
theorem foldC_snoc (c : Int) (l : List UInt8) (b : UInt8) : foldC c (l ++ [b]) = foldC c l * 64 + (b.toNat : Int) - 128 := by simp [foldC]
theorem good_not (l : List UInt8) (hne : l ≠ []) (h : ¬ Good l) : decC l = -1 ∧ decN l = 1 := by
  have hb : (decodeL l).1 = 65533 ∧ (decodeL l).2 = 1 := by
    rcases Classical.em ((decodeL l).1 = 65533 ∧ (decodeL l).2 = 1) with hb | hb
    · exact hb
    · have e := encode_decode l hne hb
      exfalso
      apply h
      refine ⟨((decodeL l).1 : Int), l.drop (decodeL l).2, ?_, by rw [e, List.take_append_drop]⟩
      have hr := decodeL_rune l
      refine decide_eq_true ⟨by omega, by omega, fun hs => ?_⟩
      have hl : (encodeRuneZ ((decodeL l).1 : Int)) = [239, 191, 189] := encodeRuneZ_bad (.inr (.inl ⟨by omega, by omega⟩))
      have e2 : encodeRune 65533 = l.take (decodeL l).2 := by rw [← e]; unfold encodeRune; rw [hl]; rfl
      have e3 := decode_encode 65533 (l.drop (decodeL l).2) (by decide)
      rw [e2, List.take_append_drop] at e3
      have := congrArg Prod.fst e3
      simp only at this
      omega
  unfold decC decN
  rw [if_neg hne, if_neg hne, if_pos hb]
  exact ⟨rfl, hb.2⟩
theorem good_is (l : List UInt8) (c : Int) (h : encOk c = true) (n : Nat) (e : encodeRune c = l.take n) (hn : n ≤ l.length) : decC l = c ∧ decN l = n := by
  have := decC_enc c (l.drop n) h
  rw [e, List.take_append_drop] at this
  rw [this.1, this.2, List.length_take]
  exact ⟨rfl, by omega⟩

theorem toNat_get (z : Int) (h0 : 0 ≤ z) (h1 : z < 256) : ((z.toNat.toUInt8).toNat : Int) = z := by
  simp; omega
/-- a character's octets, as the pages' decoder reads them -/
theorem good_facts (l : List UInt8) (h : Good l) : ∃ a t, ∃ n : Nat, l = a :: t ∧ szI (a.toNat : Int) = n ∧ 1 ≤ n ∧ n ≤ l.length ∧ (∀ b ∈ t.take (n - 1), 128 ≤ b.toNat ∧ b.toNat ≤ 191) ∧
    encOk (foldC (headI (a.toNat : Int)) (t.take (n - 1))) = true ∧ encodeRune (foldC (headI (a.toNat : Int)) (t.take (n - 1))) = l.take n := by
  obtain ⟨c, s, hok, rfl⟩ := h
  have hc := of_decide_eq_true hok
  have hcases : (0 ≤ c ∧ c ≤ 127) ∨ (128 ≤ c ∧ c ≤ 2047) ∨ ((2048 ≤ c ∧ c < 55296) ∨ (57343 < c ∧ c ≤ 65535)) ∨ (65536 ≤ c ∧ c ≤ 1114111) := by omega
  have key : ∀ (a : UInt8) (u : List UInt8), encodeRune c = a :: u → szI (a.toNat : Int) = ((u.length + 1 : Nat) : Int) → (∀ b ∈ u, 128 ≤ b.toNat ∧ b.toNat ≤ 191) → foldC (headI (a.toNat : Int)) u = c →
      ∃ a t, ∃ n : Nat, encodeRune c ++ s = a :: t ∧ szI (a.toNat : Int) = n ∧ 1 ≤ n ∧ n ≤ (encodeRune c ++ s).length ∧ (∀ b ∈ t.take (n - 1), 128 ≤ b.toNat ∧ b.toNat ≤ 191) ∧
      encOk (foldC (headI (a.toNat : Int)) (t.take (n - 1))) = true ∧ encodeRune (foldC (headI (a.toNat : Int)) (t.take (n - 1))) = (encodeRune c ++ s).take n := by
    intro a u e h1 h2 h3
    have e4 : (u ++ s).take (u.length + 1 - 1) = u := by simp
    refine ⟨a, u ++ s, u.length + 1, by rw [e]; rfl, h1, by omega, by rw [e]; simp, by rw [e4]; exact h2, by rw [e4, h3]; exact hok, by rw [e4, h3, e]; simp⟩
  rcases hcases with hr | hr | hr | hr
  · have z := encodeRuneZ_one hr.1 hr.2
    have b0 := toNat_get c (by omega) (by omega)
    refine key _ [] (by unfold encodeRune; rw [z]; rfl) ?_ (by simp) ?_
    · rw [b0]; unfold szI; rw [if_pos (by omega)]; rfl
    · rw [b0]; unfold headI foldC; rw [if_pos (by omega)]; rfl
  · have z := encodeRuneZ_two hr.1 hr.2
    have b0 := toNat_get (192 + c / 64) (by omega) (by omega)
    have b1 := toNat_get (128 + c % 64) (by omega) (by omega)
    refine key _ [(128 + c % 64).toNat.toUInt8] (by unfold encodeRune; rw [z]; rfl) ?_ ?_ ?_
    · rw [b0]; unfold szI; rw [if_neg (by omega), if_pos (by omega)]; rfl
    · intro b hb; simp only [List.mem_cons, List.not_mem_nil, or_false] at hb; subst hb; omega
    · rw [b0]; unfold headI foldC; rw [if_neg (by omega), if_pos (by omega)]; simp only [List.foldl]; rw [b1]; omega
  · have z := encodeRuneZ_three hr
    have b0 := toNat_get (224 + c / 4096) (by omega) (by omega)
    have b1 := toNat_get (128 + c / 64 % 64) (by omega) (by omega)
    have b2 := toNat_get (128 + c % 64) (by omega) (by omega)
    refine key _ [(128 + c / 64 % 64).toNat.toUInt8, (128 + c % 64).toNat.toUInt8] (by unfold encodeRune; rw [z]; rfl) ?_ ?_ ?_
    · rw [b0]; unfold szI; rw [if_neg (by omega), if_neg (by omega), if_pos (by omega)]; rfl
    · intro b hb; simp only [List.mem_cons, List.not_mem_nil, or_false] at hb; rcases hb with rfl | rfl <;> omega
    · rw [b0]; unfold headI foldC; rw [if_neg (by omega), if_neg (by omega), if_pos (by omega)]; simp only [List.foldl]; rw [b1, b2]; omega
  · have z := encodeRuneZ_four hr.1 hr.2
    have b0 := toNat_get (240 + c / 262144) (by omega) (by omega)
    have b1 := toNat_get (128 + c / 4096 % 64) (by omega) (by omega)
    have b2 := toNat_get (128 + c / 64 % 64) (by omega) (by omega)
    have b3 := toNat_get (128 + c % 64) (by omega) (by omega)
    refine key _ [(128 + c / 4096 % 64).toNat.toUInt8, (128 + c / 64 % 64).toNat.toUInt8, (128 + c % 64).toNat.toUInt8] (by unfold encodeRune; rw [z]; rfl) ?_ ?_ ?_
    · rw [b0]; unfold szI; rw [if_neg (by omega), if_neg (by omega), if_neg (by omega), if_pos (by omega)]; rfl
    · intro b hb; simp only [List.mem_cons, List.not_mem_nil, or_false] at hb; rcases hb with rfl | rfl | rfl <;> omega
    · rw [b0]; unfold headI foldC; rw [if_neg (by omega), if_neg (by omega), if_neg (by omega)]; simp only [List.foldl]; rw [b1, b2, b3]; omega
end Go.Proofs.Ytihgmgpcdodknaa
