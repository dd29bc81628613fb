import Derived.Lib.MapLaws
import Derived.Lib.ValidLaws
import Derived.Lib.RuneBytes
import Derived.Lib.TrimUEq
import Derived.Lib.IndexLaws
import Derived.Test.YtkcnmjdomipbjaaGreatS1
set_option linter.unusedVariables false
set_option maxHeartbeats 100000000
set_option maxRecDepth 100000
namespace Go.Proofs.YtkcnmjdomipbjaaGreat
open Go.RowKit
section
open Go.RowKit Go.Lib
def encOk (c : Int) : Bool := decide (0 <= c /\ c <= 1114111 /\ ¬ (55296 <= c /\ c <= 57343))
def encL (c : Int) : List UInt8 := if encOk c then encodeRune c else []
def encE (c : Int) : Int := if encOk c then 0 else 4
theorem encOk_valid (c : Int) : encOk c = (decide (0 <= c) && decide (c <= 1114111) && validRune c) := by
 unfold encOk validRune
 rw [Bool.eq_iff_iff]; simp; omega
def decC (l : List UInt8) : Int := if l = [] then -1 else if (decodeL l).1 = 65533 /\ (decodeL l).2 = 1 then -1 else ((decodeL l).1 : Int)
def decN (l : List UInt8) : Nat := if l = [] then 0 else (decodeL l).2
theorem enc_getD (c : Int) (s : List UInt8) (k : Nat) : ((encodeRune c ++ s).getD k 0).toNat = if h : k < (encodeRuneZ c).length then ((encodeRuneZ c)[k]).toNat else (s.getD (k - (encodeRuneZ c).length) 0).toNat := by
 have hl : (encodeRune c).length = (encodeRuneZ c).length := by simp [encodeRune]
 by_cases h : k < (encodeRuneZ c).length
 ·rw [dif_pos h];have hb := encodeRuneZ_byte c ((encodeRuneZ c)[k]) (List.getElem_mem h);simp [List.getD_eq_getElem?_getD, List.getElem?_append, h, encodeRune];omega
 rw [dif_neg h]
 simp [List.getD_eq_getElem?_getD, List.getElem?_append, hl, h]
theorem dec1 (k n b1 b2 b3 : Nat) (h : k < 128) : decodeN n k b1 b2 b3 = (k, 1) := by
 unfold decodeN; rw [if_pos h]
theorem dec2 (k n b0 b1 b2 b3 : Nat) (h : 128 <= k /\ k <= 2047) (hn : 2 <= n) (e0 : b0 = 192 + k / 64) (e1 : b1 = 128 + k % 64) : decodeN n b0 b1 b2 b3 = (k, 2) := by
 unfold decodeN
 rw [if_neg (by omega), if_pos (by omega), if_pos (by omega)]
 congr 1; omega
theorem dec3 (k n b0 b1 b2 b3 : Nat) (h : (2048 <= k /\ k < 55296) ∨ (57343 < k /\ k <= 65535)) (hn : 3 <= n) (e0 : b0 = 224 + k / 4096) (e1 : b1 = 128 + k / 64 % 64) (e2 : b2 = 128 + k % 64) : decodeN n b0 b1 b2 b3 = (k, 3) := by
 unfold decodeN
 have e : b0 % 16 * 4096 + b1 % 64 * 64 + b2 % 64 = k := by omega
 rw [if_neg (by omega), if_neg (by omega), if_pos (by omega), e, if_pos (by omega)]
theorem dec4 (k n b0 b1 b2 b3 : Nat) (h : 65536 <= k /\ k <= 1114111) (hn : 4 <= n) (e0 : b0 = 240 + k / 262144) (e1 : b1 = 128 + k / 4096 % 64) (e2 : b2 = 128 + k / 64 % 64) (e3 : b3 = 128 + k % 64) : decodeN n b0 b1 b2 b3 = (k, 4) := by
 unfold decodeN
 have e : b0 % 8 * 262144 + b1 % 64 * 4096 + b2 % 64 * 64 + b3 % 64 = k := by omega
 rw [if_neg (by omega), if_neg (by omega), if_neg (by omega), if_pos (by omega), e, if_pos (by omega)]
theorem decode_encode (c : Int) (s : List UInt8) (h : encOk c = true) : decodeL (encodeRune c ++ s) = (c.toNat, (encodeRune c).length) := by
 have hc := of_decide_eq_true h
 have hl : (encodeRune c).length = (encodeRuneZ c).length := by simp [encodeRune]
 rw [decodeL_N, enc_getD, enc_getD, enc_getD, enc_getD, List.length_append, hl]
 have hcases : (0 <= c /\ c <= 127) ∨ (128 <= c /\ c <= 2047) ∨ ((2048 <= c /\ c < 55296) ∨ (57343 < c /\ c <= 65535)) ∨ (65536 <= c /\ c <= 1114111) := by omega
 rcases hcases with hr | hr | hr | hr
 ·rw [encodeRuneZ_one hr.1 hr.2];exact dec1 _ _ _ _ _ (by simp; omega)
 ·rw [encodeRuneZ_two hr.1 hr.2];exact dec2 _ _ _ _ _ _ (by omega) (by simp) (by simp; omega) (by simp; omega)
 ·rw [encodeRuneZ_three hr];exact dec3 _ _ _ _ _ _ (by omega) (by simp) (by simp; omega) (by simp; omega) (by simp; omega)
 rw [encodeRuneZ_four hr.1 hr.2]
 exact dec4 _ _ _ _ _ _ (by omega) (by simp) (by simp; omega) (by simp; omega) (by simp; omega) (by simp; omega)
theorem encodeRune_ne (c : Int) : encodeRune c ≠ [] := by
 have h := (encodeRuneZ_length c).1
 intro e
 have : (encodeRune c).length = 0 := by rw [e]; rfl
 have hl : (encodeRune c).length = (encodeRuneZ c).length := by simp [encodeRune]
 omega
theorem encodeRune_len (c : Int) : 1 <= (encodeRune c).length /\ (encodeRune c).length <= 4 := by
 have h := encodeRuneZ_length c
 simp [encodeRune]; omega
theorem enc_notbad (c : Int) (h : encOk c = true) (s : List UInt8) : ¬ ((decodeL (encodeRune c ++ s)).1 = 65533 /\ (decodeL (encodeRune c ++ s)).2 = 1) := by
 rw [decode_encode c s h]
 rintro ⟨h1, h2⟩
 simp only at h1 h2
 have : c = 65533 := by omega
 subst this
 have : (encodeRune 65533).length = 3 := by decide
 omega
theorem decC_enc (c : Int) (s : List UInt8) (h : encOk c = true) : decC (encodeRune c ++ s) = c /\ decN (encodeRune c ++ s) = (encodeRune c).length := by
 have hn : encodeRune c ++ s ≠ [] := by simp [encodeRune_ne c]
 unfold decC decN
 rw [if_neg hn, if_neg hn, if_neg (enc_notbad c h s), decode_encode c s h]
 have hc := of_decide_eq_true h
 exact ⟨by simp; omega, rfl⟩
open Go.RowKit Go.Lib
def szI (n : Int) : Int := if n < 128 then 1 else if 194 <= n /\ n < 224 then 2 else if 224 <= n /\ n < 240 then 3 else if 240 <= n /\ n < 245 then 4 else 0
def headI (n : Int) : Int := if n < 128 then n else if n < 224 then n - 192 else if n < 240 then n - 224 else n - 240
def foldC (c : Int) (l : List UInt8) : Int := l.foldl (fun c b => c * 64 + (b.toNat : Int) - 128) c
def Good (l : List UInt8) : Prop := ∃ c s, encOk c = true /\ l = encodeRune c ++ s
theorem foldC_snoc (c : Int) (l : List UInt8) (b : UInt8) : foldC c (l ++ [b]) = foldC c l * 64 + (b.toNat : Int) - 128 := by simp [foldC]
theorem good_not (l : List UInt8) (hne : l ≠ []) (h : ¬ Good l) : decC l = -1 /\ decN l = 1 := by
 have hb : (decodeL l).1 = 65533 /\ (decodeL l).2 = 1 := by
  rcases Classical.em ((decodeL l).1 = 65533 /\ (decodeL l).2 = 1) with hb | hb
  ·exact hb
  have e := encode_decode l hne hb;exfalso;apply h;refine ⟨((decodeL l).1 : Int), l.drop (decodeL l).2, ?_, by rw [e, List.take_append_drop]⟩;have hr := decodeL_rune l;refine decide_eq_true ⟨by omega, by omega, fun hs => ?_⟩;have hl : (encodeRuneZ ((decodeL l).1 : Int)) = [239, 191, 189] := encodeRuneZ_bad (.inr (.inl ⟨by omega, by omega⟩));have e2 : encodeRune 65533 = l.take (decodeL l).2 := by rw [<- e]; unfold encodeRune; rw [hl]; rfl
  have e3 := decode_encode 65533 (l.drop (decodeL l).2) (by decide);rw [e2, List.take_append_drop] at e3;have := congrArg Prod.fst e3;simp only at this;omega
 unfold decC decN
 rw [if_neg hne, if_neg hne, if_pos hb]
 exact ⟨rfl, hb.2⟩
theorem good_is (l : List UInt8) (c : Int) (h : encOk c = true) (n : Nat) (e : encodeRune c = l.take n) (hn : n <= l.length) : decC l = c /\ decN l = n := by
 have := decC_enc c (l.drop n) h
 rw [e, List.take_append_drop] at this
 rw [this.1, this.2, List.length_take]
 exact ⟨rfl, by omega⟩
theorem toNat_get (z : Int) (h0 : 0 <= z) (h1 : z < 256) : ((z.toNat.toUInt8).toNat : Int) = z := by
 simp; omega
theorem good_facts (l : List UInt8) (h : Good l) : ∃ a t, ∃ n : Nat, l = a :: t /\ szI (a.toNat : Int) = n /\ 1 <= n /\ n <= l.length /\ (∀ b ∈ t.take (n - 1), 128 <= b.toNat /\ b.toNat <= 191) /\
  encOk (foldC (headI (a.toNat : Int)) (t.take (n - 1))) = true /\ encodeRune (foldC (headI (a.toNat : Int)) (t.take (n - 1))) = l.take n := by
 obtain ⟨c, s, hok, rfl⟩ := h
 have hc := of_decide_eq_true hok
 have hcases : (0 <= c /\ c <= 127) ∨ (128 <= c /\ c <= 2047) ∨ ((2048 <= c /\ c < 55296) ∨ (57343 < c /\ c <= 65535)) ∨ (65536 <= c /\ c <= 1114111) := by omega
 have key : ∀ (a : UInt8) (u : List UInt8), encodeRune c = a :: u -> szI (a.toNat : Int) = ((u.length + 1 : Nat) : Int) -> (∀ b ∈ u, 128 <= b.toNat /\ b.toNat <= 191) -> foldC (headI (a.toNat : Int)) u = c ->
   ∃ a t, ∃ n : Nat, encodeRune c ++ s = a :: t /\ szI (a.toNat : Int) = n /\ 1 <= n /\ n <= (encodeRune c ++ s).length /\ (∀ b ∈ t.take (n - 1), 128 <= b.toNat /\ b.toNat <= 191) /\
   encOk (foldC (headI (a.toNat : Int)) (t.take (n - 1))) = true /\ encodeRune (foldC (headI (a.toNat : Int)) (t.take (n - 1))) = (encodeRune c ++ s).take n := by
  intro a u e h1 h2 h3;have e4 : (u ++ s).take (u.length + 1 - 1) = u := by simp
  refine ⟨a, u ++ s, u.length + 1, by rw [e]; rfl, h1, by omega, by rw [e]; simp, by rw [e4]; exact h2, by rw [e4, h3]; exact hok, by rw [e4, h3, e]; simp⟩
 rcases hcases with hr | hr | hr | hr
 ·have z := encodeRuneZ_one hr.1 hr.2;have b0 := toNat_get c (by omega) (by omega);refine key _ [] (by unfold encodeRune; rw [z]; rfl) ?_ (by simp) ?_
  ·rw [b0]; unfold szI; rw [if_pos (by omega)]; rfl
  rw [b0]; unfold headI foldC; rw [if_pos (by omega)]; rfl
 ·have z := encodeRuneZ_two hr.1 hr.2;have b0 := toNat_get (192 + c / 64) (by omega) (by omega);have b1 := toNat_get (128 + c % 64) (by omega) (by omega);refine key _ [(128 + c % 64).toNat.toUInt8] (by unfold encodeRune; rw [z]; rfl) ?_ ?_ ?_
  ·rw [b0]; unfold szI; rw [if_neg (by omega), if_pos (by omega)]; rfl
  ·intro b hb; simp only [List.mem_cons, List.not_mem_nil, or_false] at hb; subst hb; omega
  rw [b0]; unfold headI foldC; rw [if_neg (by omega), if_pos (by omega)]; simp only [List.foldl]; rw [b1]; omega
 ·have z := encodeRuneZ_three hr;have b0 := toNat_get (224 + c / 4096) (by omega) (by omega);have b1 := toNat_get (128 + c / 64 % 64) (by omega) (by omega);have b2 := toNat_get (128 + c % 64) (by omega) (by omega);refine key _ [(128 + c / 64 % 64).toNat.toUInt8, (128 + c % 64).toNat.toUInt8] (by unfold encodeRune; rw [z]; rfl) ?_ ?_ ?_
  ·rw [b0]; unfold szI; rw [if_neg (by omega), if_neg (by omega), if_pos (by omega)]; rfl
  ·intro b hb; simp only [List.mem_cons, List.not_mem_nil, or_false] at hb; rcases hb with rfl | rfl <;> omega
  rw [b0]; unfold headI foldC; rw [if_neg (by omega), if_neg (by omega), if_pos (by omega)]; simp only [List.foldl]; rw [b1, b2]; omega
 have z := encodeRuneZ_four hr.1 hr.2
 have b0 := toNat_get (240 + c / 262144) (by omega) (by omega)
 have b1 := toNat_get (128 + c / 4096 % 64) (by omega) (by omega)
 have b2 := toNat_get (128 + c / 64 % 64) (by omega) (by omega)
 have b3 := toNat_get (128 + c % 64) (by omega) (by omega)
 refine key _ [(128 + c / 4096 % 64).toNat.toUInt8, (128 + c / 64 % 64).toNat.toUInt8, (128 + c % 64).toNat.toUInt8] (by unfold encodeRune; rw [z]; rfl) ?_ ?_ ?_
 ·rw [b0]; unfold szI; rw [if_neg (by omega), if_neg (by omega), if_neg (by omega), if_pos (by omega)]; rfl
 ·intro b hb; simp only [List.mem_cons, List.not_mem_nil, or_false] at hb; rcases hb with rfl | rfl | rfl <;> omega
 rw [b0]; unfold headI foldC; rw [if_neg (by omega), if_neg (by omega), if_neg (by omega)]; simp only [List.foldl]; rw [b1, b2, b3]; omega
open Go.RowKit Go.Lib
theorem decN_pos (l : List UInt8) (h : l ≠ []) : 1 <= decN l /\ decN l <= l.length := by
 unfold decN
 rw [if_neg h]
 have := decodeL_width l
 have hl : 0 < l.length := List.length_pos_iff.2 h
 by_cases hb : (decodeL l).1 = 65533 /\ (decodeL l).2 = 1
 ·omega
 have e := encode_decode l h hb
 have e2 := congrArg List.length e
 rw [List.length_take] at e2
 have e3 := encodeRune_len ((decodeL l).1 : Int)
 refine ⟨this, ?_⟩
 rcases Nat.lt_or_ge l.length (decodeL l).2 with hlt | hge
 ·exfalso;have e4 : l.take (decodeL l).2 = l := List.take_of_length_le (by omega);rw [e4] at e;have e5 := decode_encode ((decodeL l).1 : Int) [];have hr := decodeL_rune l;by_cases hok : encOk ((decodeL l).1 : Int) = true
  ·have e6 := e5 hok;rw [List.append_nil, e] at e6;have := congrArg Prod.snd e6;simp only at this;omega
  have hs : 55296 <= (decodeL l).1 /\ (decodeL l).1 <= 57343 := by
   have : ¬ (0 <= ((decodeL l).1 : Int) /\ ((decodeL l).1 : Int) <= 1114111 /\ ¬ (55296 <= ((decodeL l).1 : Int) /\ ((decodeL l).1 : Int) <= 57343)) := fun h => hok (decide_eq_true h)
   omega
  have hz : encodeRuneZ ((decodeL l).1 : Int) = [239, 191, 189] := encodeRuneZ_bad (.inr (.inl ⟨by omega, by omega⟩));have e7 : l = encodeRune 65533 := by rw [<- e]; unfold encodeRune; rw [hz]; rfl
  rw [e7] at hs;have := decode_encode 65533 [] (by decide);rw [List.append_nil] at this;rw [this] at hs;simp at hs
 exact hge
def chrL (l : List UInt8) : Int := if decC l <= 0 then 65533 else decC l
def charsN : Nat -> List UInt8 -> List Int
 | 0, _ => []
 | n + 1, l => if l = [] then [] else chrL l :: charsN n (l.drop (decN l))
def charsL (l : List UInt8) : List Int := charsN l.length l
theorem charsN_more : ∀ (n m : Nat) (l : List UInt8), l.length <= n -> l.length <= m -> charsN n l = charsN m l
 | 0, m, l, h1, h2 => by
  have : l = [] := List.eq_nil_of_length_eq_zero (by omega);subst this;cases m <;> simp [charsN]
 | n + 1, 0, l, h1, h2 => by
  have : l = [] := List.eq_nil_of_length_eq_zero (by omega);subst this;simp [charsN]
 | n + 1, m + 1, l, h1, h2 => by
  unfold charsN;by_cases h : l = []
  ·rw [if_pos h, if_pos h]
  rw [if_neg h, if_neg h];have := decN_pos l h;rw [charsN_more n m _ (by rw [List.length_drop]; omega) (by rw [List.length_drop]; omega)]
theorem charsL_nil : charsL [] = [] := rfl
theorem charsL_step (l : List UInt8) (h : l ≠ []) : charsL l = chrL l :: charsL (l.drop (decN l)) := by
 unfold charsL
 have hl : 0 < l.length := List.length_pos_iff.2 h
 have hd := decN_pos l h
 obtain ⟨n, hn⟩ : ∃ n, l.length = n + 1 := ⟨l.length - 1, by omega⟩
 rw [hn]
 show (if l = [] then [] else _) = _
 rw [if_neg h, charsN_more n _ _ (by rw [List.length_drop]; omega) (Nat.le_refl _)]
theorem decC_ok (l : List UInt8) (h : 0 <= decC l) : encOk (decC l) = true /\ encodeRune (decC l) = l.take (decN l) := by
 rcases Classical.em (Good l) with hg | hg
 ·obtain ⟨c, s, hok, rfl⟩ := hg;have e := decC_enc c s hok;rw [e.1, e.2, List.take_left];exact ⟨hok, rfl⟩
 by_cases hne : l = []
 ·subst hne; simp [decC] at h
 rw [(good_not l hne hg).1] at h; omega
theorem chrL_ok (l : List UInt8) : encOk (chrL l) = true /\ 0 < chrL l := by
 unfold chrL
 by_cases h : decC l <= 0
 ·rw [if_pos h]; decide
 rw [if_neg h]; exact ⟨(decC_ok l (by omega)).1, by omega⟩
theorem charsL_ok : ∀ (n : Nat) (l : List UInt8), l.length <= n -> ∀ c ∈ charsL l, encOk c = true /\ 0 < c
 | 0, l, h => by
  have : l = [] := List.eq_nil_of_length_eq_zero (by omega);subst this; simp [charsL_nil]
 | n + 1, l, h => by
  by_cases hne : l = []
  ·subst hne; simp [charsL_nil]
  have hd := decN_pos l hne;rw [charsL_step l hne];intro c hc;rcases List.mem_cons.1 hc with rfl | hc
  ·exact chrL_ok l
  exact charsL_ok n _ (by rw [List.length_drop]; omega) c hc
theorem charsL_len : ∀ (n : Nat) (l : List UInt8), l.length <= n -> (charsL l).length <= l.length
 | 0, l, h => by
  have : l = [] := List.eq_nil_of_length_eq_zero (by omega);subst this; simp [charsL_nil]
 | n + 1, l, h => by
  by_cases hne : l = []
  ·subst hne; simp [charsL_nil]
  have hd := decN_pos l hne;rw [charsL_step l hne];have := charsL_len n (l.drop (decN l)) (by rw [List.length_drop]; omega);rw [List.length_drop] at this;rw [List.length_cons]; omega
def encAll (l : List Int) : List UInt8 := l.flatMap encodeRune
theorem encAll_snoc (l : List Int) (c : Int) : encAll (l ++ [c]) = encAll l ++ encodeRune c := by simp [encAll]
theorem encAll_len (l : List Int) : (encAll l).length <= 4 * l.length := by
 induction l with
 | nil => simp [encAll]
 | cons c l ih =>
  have := encodeRune_len c;have e : encAll (c :: l) = encodeRune c ++ encAll l := by simp [encAll]
  rw [e, List.length_append, List.length_cons]; omega
def repairL (l : List UInt8) : List UInt8 := encAll (charsL l)
open Go.RowKit Go.Lib
def isD (c : UInt8) : Bool := decide (48 <= c.toNat) && decide (c.toNat <= 57)
def isH (c : UInt8) : Bool := isD c || (decide (97 <= c.toNat) && decide (c.toNat <= 102)) || (decide (65 <= c.toNat) && decide (c.toNat <= 70))
def digP (hex : Bool) (c : UInt8) : Bool := if hex then isH c else isD c
def dval (c : UInt8) : Nat := if isD c then c.toNat - 48 else if c.toNat <= 70 then c.toNat - 55 else c.toNat - 87
def baseN (hex : Bool) : Nat := if hex then 16 else 10
def valN (base : Nat) (l : List UInt8) : Nat := l.foldl (fun n c => n * base + dval c) 0
theorem valN_snoc (base : Nat) (l : List UInt8) (c : UInt8) : valN base (l ++ [c]) = valN base l * base + dval c := by simp [valN]
def chrOf (n : Nat) : List UInt8 := if encOk (n : Int) = true /\ n ≠ 0 then encodeRune (n : Int) else [239, 191, 189]
def numT (hex : Bool) (t : List UInt8) : Option (List UInt8 × Nat) :=
 if 1 <= (t.takeWhile (digP hex)).length /\ (t.takeWhile (digP hex)).length <= 7 /\ t[(t.takeWhile (digP hex)).length]? = some 59 then
  some (chrOf (valN (baseN hex) (t.takeWhile (digP hex))), (t.takeWhile (digP hex)).length + 1) else none
def names : List (List UInt8 × UInt8) := [([97, 109, 112], 38), ([108, 116], 60), ([103, 116], 62), ([113, 117, 111, 116], 34), ([97, 112, 111, 115], 39)]
def namedL (s : List UInt8) : Option (List UInt8 × Nat) := (names.find? fun p => (38 :: (p.1 ++ [59])).isPrefixOf s).map fun p => ([p.2], p.1.length + 2)
def isX (c : UInt8) : Bool := c == 120 || c == 88
def numL : List UInt8 -> List UInt8 × Nat
 | 38 :: 35 :: t =>
  match t with
  | [] => ([], 0)
  | c :: u => if isX c then (match numT true u with | some (x, k) => (x, k + 3) | none => ([], 0)) else (match numT false t with | some (x, k) => (x, k + 2) | none => ([], 0))
 | _ => ([], 0)
def oneR (s : List UInt8) : List UInt8 × Nat := match namedL s with | some r => r | none => numL s
def Mtch (m x : List UInt8) : Prop := (∃ p ∈ names, m = 38 :: (p.1 ++ [59]) /\ x = [p.2]) ∨
 ∃ hex pre ds, (hex = true /\ (pre = [120] ∨ pre = [88]) ∨ hex = false /\ pre = []) /\ 1 <= ds.length /\ ds.length <= 7 /\ ds.all (digP hex) = true /\ m = 38 :: 35 :: (pre ++ ds ++ [59]) /\ x = chrOf (valN (baseN hex) ds)
theorem takeWhile_stop (p : UInt8 -> Bool) (ds : List UInt8) (c : UInt8) (r : List UInt8) (h : ds.all p = true) (hc : p c = false) : (ds ++ c :: r).takeWhile p = ds := by
 induction ds with
 | nil => simp [hc]
 | cons d ds ih =>
  rw [List.all_cons, Bool.and_eq_true] at h;rw [List.cons_append, List.takeWhile_cons, h.1, if_pos rfl, ih h.2]
theorem dig_no59 (hex : Bool) : digP hex 59 = false := by cases hex <;> decide
theorem dig_noX (c : UInt8) (h : isX c = true) : isD c = false := by
 unfold isX at h
 rw [Bool.or_eq_true, beq_iff_eq, beq_iff_eq] at h
 rcases h with rfl | rfl <;> decide
theorem numT_of (hex : Bool) (ds r : List UInt8) (h1 : 1 <= ds.length) (h2 : ds.length <= 7) (h3 : ds.all (digP hex) = true) : numT hex (ds ++ [59] ++ r) = some (chrOf (valN (baseN hex) ds), ds.length + 1) := by
 unfold numT
 rw [List.append_assoc, List.singleton_append, takeWhile_stop _ ds 59 r h3 (dig_no59 hex)]
 rw [if_pos ⟨h1, h2, by simp⟩]
theorem takeWhile_split (p : UInt8 -> Bool) (t : List UInt8) : t = t.takeWhile p ++ t.drop (t.takeWhile p).length /\ (t.takeWhile p).all p = true := by
 induction t with
 | nil => simp
 | cons c t ih =>
  rw [List.takeWhile_cons];cases hc : p c with
  | false => simp
  | true =>
   rw [if_pos rfl];refine ⟨?_, ?_⟩
   ·rw [List.cons_append, List.length_cons, List.drop_succ_cons, <- ih.1]
   rw [List.all_cons, hc, ih.2]; rfl
theorem numT_some (hex : Bool) (t : List UInt8) (x : List UInt8) (k : Nat) (h : numT hex t = some (x, k)) : ∃ ds r, t = ds ++ [59] ++ r /\ 1 <= ds.length /\ ds.length <= 7 /\ ds.all (digP hex) = true /\ x = chrOf (valN (baseN hex) ds) /\ k = ds.length + 1 := by
 unfold numT at h
 by_cases hc : 1 <= (t.takeWhile (digP hex)).length /\ (t.takeWhile (digP hex)).length <= 7 /\ t[(t.takeWhile (digP hex)).length]? = some 59
 ·rw [if_pos hc] at h;injection h with h
  injection h with ha hb
  have hs := takeWhile_split (digP hex) t;obtain ⟨c1, c2, c3⟩ := hc;have hlt : (t.takeWhile (digP hex)).length < t.length := by
   rcases Nat.lt_or_ge (t.takeWhile (digP hex)).length t.length with h' | h'
   ·exact h'
   rw [List.getElem?_eq_none h'] at c3; cases c3
  rw [List.getElem?_eq_getElem hlt] at c3;injection c3 with c3
  refine ⟨t.takeWhile (digP hex), t.drop ((t.takeWhile (digP hex)).length + 1), ?_, c1, c2, hs.2, ha.symm, hb.symm⟩;have := hs.1;rw [List.drop_eq_getElem_cons hlt, c3] at this;rw [List.append_assoc, List.singleton_append]; exact this
 rw [if_neg hc] at h; cases h
theorem namedL_none_num (t : List UInt8) : namedL (38 :: 35 :: t) = none := by
 simp [namedL, names, List.find?, List.isPrefixOf]
theorem mtch_one (m x r : List UInt8) (h : Mtch m x) : oneR (m ++ r) = (x, m.length) := by
 rcases h with ⟨p, hp, rfl, rfl⟩ | ⟨hex, pre, ds, hx, h1, h2, h3, rfl, rfl⟩
 ·simp only [names, List.mem_cons, List.not_mem_nil, or_false] at hp;rcases hp with rfl | rfl | rfl | rfl | rfl <;> simp [oneR, namedL, names, List.find?, List.isPrefixOf]
 unfold oneR
 have e0 : (38 :: 35 :: (pre ++ ds ++ [59])) ++ r = 38 :: 35 :: (pre ++ (ds ++ [59] ++ r)) := by simp
 rw [e0, namedL_none_num]
 show numL _ = _
 have hn := numT_of hex ds r h1 h2 h3
 rcases hx with ⟨rfl, hp⟩ | ⟨rfl, rfl⟩
 ·rcases hp with rfl | rfl
  ·show numL (38 :: 35 :: 120 :: (ds ++ [59] ++ r)) = _;simp only [numL];rw [if_pos (by decide), hn]; simp
  show numL (38 :: 35 :: 88 :: (ds ++ [59] ++ r)) = _;simp only [numL];rw [if_pos (by decide), hn]; simp
 cases ds with
 | nil => simp at h1
 | cons d ds =>
  have hd : isD d = true := by rw [List.all_cons, Bool.and_eq_true] at h3; exact h3.1
  have hX : isX d = false := by
   cases e : isX d with
   | false => rfl
   | true => rw [dig_noX d e] at hd; cases hd
  show numL (38 :: 35 :: d :: (ds ++ [59] ++ r)) = _;simp only [numL];rw [if_neg (by rw [hX]; simp)];have hn' : numT false (d :: (ds ++ [59] ++ r)) = _ := hn;rw [hn']; simp
theorem one_mtch (s : List UInt8) : (oneR s = ([], 0)) ∨ ∃ m x r, s = m ++ r /\ Mtch m x := by
 unfold oneR
 cases hn : namedL s with
 | some q =>
  right
  unfold namedL at hn;rw [Option.map_eq_some_iff] at hn;obtain ⟨p, hp, _⟩ := hn;have h1 := List.find?_some hp;have h2 := List.mem_of_find?_eq_some hp;rw [List.isPrefixOf_iff_prefix] at h1;obtain ⟨r, hr⟩ := h1;exact ⟨_, _, r, hr.symm, .inl ⟨p, h2, rfl, rfl⟩⟩
 | none =>
  show numL s = _ ∨ _;unfold numL;split
  ·rename_i t;split
   ·exact .inl rfl
   rename_i c u;by_cases hx : isX c = true
   ·rw [if_pos hx];cases hT : numT true u with
    | none => exact .inl rfl
    | some q =>
     obtain ⟨x, k⟩ := q;right
     obtain ⟨ds, r, h0, h1, h2, h3, h4, h5⟩ := numT_some _ _ _ _ hT;refine ⟨38 :: 35 :: ([c] ++ ds ++ [59]), x, r, by rw [h0]; simp, .inr ⟨true, [c], ds, .inl ⟨rfl, ?_⟩, h1, h2, h3, rfl, h4⟩⟩;unfold isX at hx;rw [Bool.or_eq_true, beq_iff_eq, beq_iff_eq] at hx;rcases hx with rfl | rfl
     ·exact .inl rfl
     exact .inr rfl
   rw [if_neg hx];cases hT : numT false (c :: u) with
   | none => exact .inl rfl
   | some q =>
    obtain ⟨x, k⟩ := q;right
    obtain ⟨ds, r, h0, h1, h2, h3, h4, h5⟩ := numT_some _ _ _ _ hT;exact ⟨38 :: 35 :: ([] ++ ds ++ [59]), x, r, by rw [h0]; simp, .inr ⟨false, [], ds, .inr ⟨rfl, rfl⟩, h1, h2, h3, rfl, h4⟩⟩
  exact .inl rfl
theorem mtch_shape (m x : List UInt8) (h : Mtch m x) : ∃ u, m = 38 :: (u ++ [59]) /\ (59 : UInt8) ∉ u /\ 1 <= u.length /\ u.length <= 9 /\ x ≠ [] /\ x.length <= 4 := by
 rcases h with ⟨p, hp, rfl, rfl⟩ | ⟨hex, pre, ds, hx, h1, h2, h3, rfl, rfl⟩
 ·simp only [names, List.mem_cons, List.not_mem_nil, or_false] at hp;rcases hp with rfl | rfl | rfl | rfl | rfl <;> exact ⟨_, rfl, by decide, by decide, by decide, by decide, by decide⟩
 have hd : (59 : UInt8) ∉ ds := fun hm => by
  have := List.all_eq_true.1 h3 59 hm;rw [dig_no59] at this; cases this
 have hxx : chrOf (valN (baseN hex) ds) ≠ [] /\ (chrOf (valN (baseN hex) ds)).length <= 4 := by
  unfold chrOf;split
  ·exact ⟨encodeRune_ne _, (encodeRune_len _).2⟩
  exact ⟨by decide, by decide⟩
 have hpl : pre.length <= 1 /\ (59 : UInt8) ∉ pre := by
  rcases hx with ⟨_, rfl | rfl⟩ | ⟨_, rfl⟩ <;> decide
 refine ⟨35 :: (pre ++ ds), by simp, ?_, by simp, by simp; omega, hxx.1, hxx.2⟩
 simp only [List.mem_cons, List.mem_append, not_or]
 exact ⟨by decide, hpl.2, hd⟩
def escB (c : UInt8) : List UInt8 :=
 if c = 38 then [38, 97, 109, 112, 59] else if c = 60 then [38, 108, 116, 59] else if c = 62 then [38, 103, 116, 59] else if c = 34 then [38, 35, 51, 52, 59] else if c = 39 then [38, 35, 51, 57, 59] else if c = 43 then [38, 35, 52, 51, 59] else [c]
def escA (l : List UInt8) : List UInt8 := l.flatMap escB
def escL (l : List UInt8) : List UInt8 := escA (repairL l)
theorem escA_snoc (l : List UInt8) (c : UInt8) : escA (l ++ [c]) = escA l ++ escB c := by simp [escA]
theorem escB_len (c : UInt8) : (escB c).length <= 5 := by unfold escB; repeat' split
                                                          all_goals simp
theorem escA_len (l : List UInt8) : (escA l).length <= 5 * l.length := by
 induction l with
 | nil => simp [escA]
 | cons c l ih =>
  have := escB_len c;have e : escA (c :: l) = escB c ++ escA l := by simp [escA]
  rw [e, List.length_append, List.length_cons]; omega
def isLetter (c : UInt8) : Bool := (97 <= c && c <= 122) || (65 <= c && c <= 90)
def isDigit (c : UInt8) : Bool := 48 <= c && c <= 57
def isWordy (c : UInt8) : Bool := isLetter c || isDigit c || c == 45 || c == 95
def isBlank (c : UInt8) : Bool := c == 32 || c == 9 || c == 10 || c == 12 || c == 13
def cCode (w : List UInt8) (c : UInt8) : Int × List UInt8 :=
 if isWordy c then (if w = [63] then (0, [63]) else if w.length < 16 then (0, w ++ [lowB c]) else (0, w))
 else if c = 40 then (if w = [117, 114, 108] then (8, []) else if w = [63] then (9, []) else (0, []))
 else if c = 92 then (9, []) else if c = 34 then (1, []) else if c = 39 then (2, []) else if c = 47 then (5, []) else (0, [])
def cQuoted (p : Int) (c : UInt8) : Int :=
 if (c = 34 /\ p = 1) ∨ (c = 39 /\ p = 2) then 0 else if c = 92 then p + 2 else if c = 10 ∨ c = 13 then 9 else p
def cRemark (p : Int) (c : UInt8) : Int × List UInt8 :=
 if p = 5 then (if c = 42 then (6, []) else cCode [] c) else if c = 42 then (7, []) else if p = 7 /\ c = 47 then (0, []) else (6, [])
def cStep (p : Int) (w : List UInt8) (c : UInt8) : Int × List UInt8 :=
 if p = 0 then cCode w c else if p = 1 ∨ p = 2 then (cQuoted p c, []) else if p = 3 ∨ p = 4 then (p - 2, []) else
 if p = 5 ∨ p = 6 ∨ p = 7 then cRemark p c else if p = 8 then (if c = 41 then (0, []) else (8, [])) else (9, [])
def okCss (c : UInt8) : Bool := isLetter c || isDigit c || c == 32 || c == 46 || c == 44 || c == 37 || c == 35 || c == 43 || c == 45
def sExpr : List UInt8 := [101, 120, 112, 114, 101, 115, 115, 105, 111, 110]
def sUrl : List UInt8 := [117, 114, 108]
def sMark : List UInt8 := [90, 103, 111, 116, 109, 112, 108, 90]
def sMore : List UInt8 := [32, 46, 44, 37, 35, 43, 45]
theorem okCss_eq (c : UInt8) : okCss c = (isLetter c || isDigit c || hasB sMore c) := by
 have : ∀ k : Fin 256, okCss (UInt8.ofNat k.val) = (isLetter (UInt8.ofNat k.val) || isDigit (UInt8.ofNat k.val) || hasB sMore (UInt8.ofNat k.val)) := by decide +kernel
 have h := this ⟨c.toNat, c.toNat_lt⟩
 simpa using h
def styledL (l : List UInt8) : Bool := (low l).all okCss && (decide (l.length <= 4096) && decide (Lib.index (low l) sExpr < 0) && decide (Lib.index (low l) sUrl < 0))
def styleL (l : List UInt8) : List UInt8 := if styledL l then l else sMark
end
end Go.Proofs.YtkcnmjdomipbjaaGreat
