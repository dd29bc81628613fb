import Derived.Outline
import Derived.Deep.Cut
import Derived.Test.YtkcnmjdomipbjaaGreatS9
import Derived.Test.YtkcnmjdomipbjaaGreatS12
import Derived.Test.YtkcnmjdomipbjaaGreatS13
import Derived.Test.YtkcnmjdomipbjaaGreatS15
set_option linter.unusedVariables false
set_option maxHeartbeats 100000000
set_option maxRecDepth 100000
namespace Go.Proofs.YtkcnmjdomipbjaaGreat
open Go.RowKit
def dgt (d : Nat) : UInt8 := UInt8.ofNat (if d < 10 then 48 + d else 87 + d)
def tabH : List UInt8 := [48, 49, 50, 51, 52, 53, 54, 55, 56, 57, 97, 98, 99, 100, 101, 102]
def tabD : List UInt8 := [48, 49, 50, 51, 52, 53, 54, 55, 56, 57]
theorem tab16f : ∀ d : Fin 16, (tabH.take (d.val + 1)).drop d.val = [dgt d.val] := by decide +kernel
theorem tab10f : ∀ d : Fin 10, (tabD.take (d.val + 1)).drop d.val = [dgt d.val] := by decide +kernel
theorem tab16 (d : Nat) (h : d < 16) : (ByteArray.extract ⟨#[48, 49, 50, 51, 52, 53, 54, 55, 56, 57, 97, 98, 99, 100, 101, 102]⟩ d (d + 1)).data.toList = [dgt d] := by
 rw [data_extract]; exact tab16f ⟨d, h⟩
theorem tab10 (d : Nat) (h : d < 10) : (ByteArray.extract ⟨#[48, 49, 50, 51, 52, 53, 54, 55, 56, 57]⟩ d (d + 1)).data.toList = [dgt d] := by
 rw [data_extract]; exact tab10f ⟨d, h⟩
theorem hexS_any (n : Int) (k : Nat) (hk : k <= 16) (w : World) : Calls Tryz.prog 130 #[.int .i64 n, .int .i64 (k : Int)] w (PT k w) := by
 obtain ⟨U0, hU0, hU1⟩ : ∃ U0 : Nat, IntKind.u64.wrap n = (U0 : Int) /\ U0 <= 18446744073709551615 := ⟨(IntKind.u64.wrap n).toNat, by rw [IntKind.wrap_u64]; omega, by rw [IntKind.wrap_u64]; omega⟩
 have e1 : ¬ (k : Int) < 0 := by omega
 have e2 : ¬ (16 : Int) < (k : Int) := by omega
 go_enter Tryz.func130, Tryz.ntmps130
 go_wp2
 go_loop [5, 6, 7, 8] (fun u out i _d => ∃ (j U : Nat) (t : ByteArray), j <= k /\ i = .int .i64 (j : Int) /\ u = .int .u64 (U : Int) /\ out = .string t /\ U <= 18446744073709551615 /\ t.size <= j) (fun _ _ i _ => k - (intOf i).toNat)
 case atStart => exact ⟨0, U0, ⟨#[]⟩, by omega, rfl, rfl, rfl, hU1, Nat.le_refl _⟩
 obtain ⟨j, U, t, hj, rfl, rfl, rfl, hU, ht⟩ := hrel
 by_cases h6 : j < k
 ·obtain ⟨r, hr⟩ := xE (U % 16);obtain ⟨q, hq⟩ := xE (U / 16);have hr9 : r < 16 := by omega
  have hq9 : q <= U := by omega
  have hr2 : (U : Int) % 16 = (r : Int) := by omega
  have hq2 : (U : Int) / 16 = (q : Int) := by omega
  have HT := hid (tab16 r hr9);have hez : (ByteArray.extract ⟨#[48, 49, 50, 51, 52, 53, 54, 55, 56, 57, 97, 98, 99, 100, 101, 102]⟩ r (r + 1)).size <= 1 := by rw [<- len_data, HT.out]; exact Nat.le_refl _
  clear hr hq hU0;go_wp2
  go_round
  case rel => exact ⟨j + 1, q, _, by omega, by go_num, rfl, rfl, by omega, by rw [ByteArray.size_append]; omega⟩
  simp [intOf]; omega
 obtain rfl : j = k := by omega
 go_wp2
 go_ret
 exact ⟨_, rfl, ht, rfl⟩
theorem printS_any (n : Int) (w : World) : Calls Tryz.prog 106 #[.int .i64 n] w (PT 22 w) := by
 obtain ⟨U0, hU0, hU1⟩ : ∃ U0 : Nat, IntKind.u64.wrap n = (U0 : Int) /\ U0 <= 18446744073709551615 := ⟨(IntKind.u64.wrap n).toNat, by rw [IntKind.wrap_u64]; omega, by rw [IntKind.wrap_u64]; omega⟩
 obtain ⟨U2, hU2, hU3⟩ : ∃ U2 : Nat, IntKind.u64.wrap (-(U0 : Int)) = (U2 : Int) /\ U2 <= 18446744073709551615 := ⟨(IntKind.u64.wrap (-(U0 : Int))).toNat, by rw [IntKind.wrap_u64]; omega, by rw [IntKind.wrap_u64]; omega⟩
 have key : Hid (∀ U : Nat, U <= 18446744073709551615 -> U < 10 ^ (20 : Nat)) := hid (fun U h => Nat.lt_of_le_of_lt h (by decide))
 by_cases hn : n < 0
 all_goals
  go_enter Tryz.func106, Tryz.ntmps106;go_wp2
  go_loop [3, 4] (fun u out => ∃ (f U : Nat) (t : ByteArray), u = .int .u64 (U : Int) /\ out = .string t /\ U <= 18446744073709551615 /\ t.size + f <= 19 /\ Hid (U < 10 ^ (f + 1))) (fun u _ => (intOf u).toNat)
  case atStart => first | exact ⟨19, U0, ⟨#[]⟩, rfl, rfl, hU1, Nat.le_refl _, hid (key.out _ hU1)⟩ | exact ⟨19, U2, ⟨#[]⟩, rfl, rfl, hU3, Nat.le_refl _, hid (key.out _ hU3)⟩
  obtain ⟨f, U, t, rfl, rfl, hU, htz, hf⟩ := hrel;by_cases h10 : 10 <= U
  ·obtain ⟨r, hr⟩ := xE (U % 10);obtain ⟨q, hq⟩ := xE (U / 10);have hr9 : r < 10 := by omega
   have hq9 : q < U := by omega
   have hr2 : (U : Int) % 10 = (r : Int) := by omega
   have hq2 : (U : Int) / 10 = (q : Int) := by omega
   have Hq := hid hq;have HT := hid (tab10 r hr9);have hez : (ByteArray.extract ⟨#[48, 49, 50, 51, 52, 53, 54, 55, 56, 57]⟩ r (r + 1)).size <= 1 := by rw [<- len_data, HT.out]; exact Nat.le_refl _
   clear hr hq hU0 hU2;go_wp2
   go_round
   case rel =>
    have h2 := hf.out;cases f with
    | zero => exfalso; omega
    | succ f =>
     refine ⟨f, q, _, rfl, rfl, by omega, by rw [ByteArray.size_append]; omega, hid ?_⟩;rw [<- Hq.out, Nat.div_lt_iff_lt_mul (by omega)]; rw [Nat.pow_succ] at h2; exact h2
   simp [intOf]; omega
  have HT := hid (tab10 U (by omega));have hez : (ByteArray.extract ⟨#[48, 49, 50, 51, 52, 53, 54, 55, 56, 57]⟩ U (U + 1)).size <= 1 := by rw [<- len_data, HT.out]; exact Nat.le_refl _
  clear hU0 hU2;go_wp2
  go_ret;exact ⟨_, rfl, by simp only [ByteArray.size_append]; first | omega | (show 1 + _ <= _; omega), rfl⟩
theorem unreserved_any (n : Int) (h0 : 0 <= n) (h1 : n <= 255) (w : World) : Calls Tryz.prog 127 #[.int .u8 n] w (PB w) := by
 have HD := hid (fun W => refDigit_any n h0 h1 W)
 have HL := hid (fun W => refLetter_any n h0 h1 W)
 generalize isDigit (bOf n) = b1 at HD
 generalize isLetter (bOf n) = b2 at HL
 go_enter Tryz.func127, Tryz.ntmps127
 go_wp2_with (first
  | (go_at_call 63; refine (HD.out _).mono ?_; rintro e w1 ⟨rfl, rfl⟩)
  | (go_at_call 62; refine (HL.out _).mono ?_; rintro e w1 ⟨rfl, rfl⟩))
 all_goals (go_ret; exact ⟨_, rfl, rfl⟩)
theorem reserved_any (n : Int) (h0 : 0 <= n) (h1 : n <= 255) (w : World) : Calls Tryz.prog 128 #[.int .u8 n] w (PB w) := by
 have HD := hid (fun s hs W => refHas_any s n h0 h1 hs W)
 go_enter Tryz.func128, Tryz.ntmps128
 go_wp2_with (go_at_call 112; refine (HD.out _ (by decide) _).mono ?_; rintro e w1 ⟨rfl, rfl⟩)
 all_goals (go_ret; exact ⟨_, rfl, rfl⟩)
def PClo (a n : Nat) (w : World) (e : Ending) (w' : World) : Prop := ∃ r : Int, e = .returned (.int .i64 r) /\ (r = -1 ∨ (a : Int) <= r /\ r + 2 <= (n : Int)) /\ w' = w
theorem closes_any (s : ByteArray) (a : Nat) (w : World) (hs : s.size <= 1099511627775) (ha : a <= 1099511627775) : Calls Tryz.prog 36 #[.string s, .int .i64 (a : Int)] w (PClo a s.size w) := by
 have Hb := hid (fun t W (ht : ByteArray.size t <= 1099511627776) => begs_any ⟨#[125, 125]⟩ t W (by decide) ht)
 go_enter Tryz.func36, Tryz.ntmps36
 go_wp2
 go_loop [1, 5] (fun i b => ∃ (k : Nat) (q : Bool), i = .int .i64 (k : Int) /\ b = .bool q /\ a <= k /\ k <= 1099511627777) (fun i _ => s.size - (intOf i).toNat)
 case atStart => exact ⟨a, false, rfl, rfl, Nat.le_refl _, by omega⟩
 obtain ⟨k, q, rfl, rfl, hk, hk2⟩ := hrel
 by_cases hlt : k < s.size
 ·obtain ⟨n, hn, h0, h1⟩ := u8b s k hlt;have hez : (s.extract k s.size).size = s.size - k := by rw [ByteArray.size_extract]; omega
  have HB := hid (Hb.out (s.extract k s.size) w (by omega));rw [hez] at HB;clear hez;cases q
  all_goals
   go_wp2_with (go_at_call 35; refine HB.out.mono ?_; rintro e w1 ⟨b1, rfl, hb1, hw⟩; obtain rfl := hw)
   all_goals first
    | (go_ret
       refine ⟨_, rfl, .inr ⟨by omega, ?_⟩, rfl⟩;have := hb1 (by first | assumption | rfl);have h2 : (2 : Nat) <= s.size - k := this;omega)
    | (go_round
       case rel => first | exact ⟨k + 1, _, by go_num, rfl, by omega, by omega⟩ | exact ⟨k + 2, _, by go_num, rfl, by omega, by omega⟩
       simp [intOf]; omega)
 have hlt2 : ¬ (k : Int) < (s.size : Int) := by omega
 go_wp2
 go_ret
 exact ⟨_, rfl, .inl rfl, rfl⟩
def PDot (G : Prop) (a n : Nat) (w : World) (e : Ending) (w' : World) : Prop := ∃ (r : Nat) (q : Int), e = .returned (.tuple #[.int .i64 (r : Int), .int .i64 q]) /\ a <= r /\ (r <= n ∨ r = a) /\ (G -> q = 0 -> a < r) /\ w' = w
def dotF (s : ByteArray) (a : Nat) : Prop := a + 1 < s.size /\ ∀ h : a < s.size, (s[a].toNat : Int) = 46
theorem dots_any (s : ByteArray) (a : Nat) (w : World) (hs : s.size <= 1099511627775) (ha : a <= 1099511627774) : Calls Tryz.prog 95 #[.string s, .int .i64 (a : Int)] w (PDot (dotF s a) a s.size w) := by
 have HN := hid (fun a W ha => name18_any s a W hs ha)
 go_enter Tryz.func95, Tryz.ntmps95
 go_wp2
 go_loop [1] (fun i => ∃ k : Nat, i = .int .i64 (k : Int) /\ a <= k /\ (k <= s.size ∨ k = a)) (fun i => s.size - (intOf i).toNat)
 case atStart => exact ⟨a, rfl, Nat.le_refl _, .inr rfl⟩
 obtain ⟨k, rfl, hk, hk2⟩ := hrel
 by_cases hlt : k + 1 < s.size
 ·have hl1 : k < s.size := by omega
  obtain ⟨n, hn, h0, h1⟩ := u8b s k hl1;have Hn1 := hid (HN.out (k + 1) w (by omega));have hw1 : IntKind.i64.wrap ((k : Int) + 1) = ((k + 1 : Nat) : Int) := IntWalk.i64_in _ (by omega);obtain ⟨k1, hk1⟩ := xE (k + 1);rw [hk1] at Hn1 hw1;have hlt' : (k1 : Int) < (s.size : Int) := by omega
  by_cases h46 : n = 46
  ·subst h46;go_upto_region 3 with (go_at_call 94; refine Hn1.out.mono ?_; rintro e w1 ⟨r, rfl, hr, hw⟩; obtain rfl := hw)
   rcases hr with ⟨rfl, _⟩ | ⟨_, hr3, hr4⟩
   ·go_wp2_with fail
    go_ret2;exact ⟨k, _, rfl, hk, hk2, fun _ h => absurd h (by decide), rfl⟩
   have hwr1 : IntKind.i64.wrap ((r : Int) - (k : Int)) = (r : Int) - (k : Int) := IntWalk.i64_in _ (by omega);have hwr2 : IntKind.i64.wrap ((r : Int) - (k : Int) - 1) = (r : Int) - (k : Int) - 1 := IntWalk.i64_in _ (by omega);have hr0 : ((r : Int) == 0) = false := beq_eq_false_iff_ne.2 (by omega);have hr0' : (r == 0) = false := beq_eq_false_iff_ne.2 (by omega);have hr0n : ¬ r = 0 := by omega
   go_wp2_with fail
   all_goals first
    | (go_ret2; exact ⟨k, _, rfl, hk, hk2, fun _ h => absurd h (by decide), rfl⟩)
    | (go_round
       case rel => exact ⟨r, rfl, by omega, by omega⟩
       simp [intOf]; omega)
  have h46b : (n == 46) = false := beq_eq_false_iff_ne.2 h46;have hG : Hid (dotF s a -> (0 : Int) = 0 -> a < k) := hid (fun hg _ => by
   rcases Nat.lt_or_ge a k with h | h
   ·exact h
   obtain rfl : k = a := by omega
   have := hg.2 hl1;omega)
  go_wp2_with fail
  go_ret2;exact ⟨k, 0, rfl, hk, hk2, fun g _ => hG.out g (by trivial), rfl⟩
 have hlt2 : ¬ (k : Int) + 1 < (s.size : Int) := by omega
 have hG : Hid (dotF s a -> (0 : Int) = 0 -> a < k) := hid (fun hg _ => by have := hg.1; omega)
 go_wp2
 go_ret2
 exact ⟨k, 0, rfl, hk, hk2, fun g _ => hG.out g (by trivial), rfl⟩
theorem parse01_any (s : ByteArray) (w : World) (hs : s.size <= 1099511627775) : Calls Tryz.prog 96 #[.string s] w (PII w) := by
 have Hd := hid (fun n h0 h1 W => refDigit_any n h0 h1 W)
 by_cases hz : s.size = 0
 ·obtain rfl : s = ⟨#[]⟩ := by
   cases s with
   | mk d => congr 1; exact Array.eq_empty_of_size_eq_zero hz
  go_enter Tryz.func96, Tryz.ntmps96;go_wp2
  go_ret2;exact ⟨_, _, rfl, rfl⟩
 have hz1 : 0 < s.size := by omega
 have hzi : (0 : Int) < (s.size : Int) := by omega
 obtain ⟨n0, hn0, h00, h01⟩ := u8b s 0 hz1
 go_enter Tryz.func96, Tryz.ntmps96
 go_upto_region 3 with fail
 obtain ⟨q, hq⟩ := xE (n0 == 45)
 rw [hq]
 clear hq
 go_upto_if 18 with fail
 go_cut [5] from 17 (fun v5 wx => (∃ t : ByteArray, v5 = .string t /\ t.size <= s.size) /\ wx = w)
 case first =>
  cases q
  all_goals
   go_wp2_with fail
   go_meet;exact ⟨⟨_, rfl, by first | (rw [ByteArray.size_extract]; omega) | exact Nat.le_refl _⟩, rfl⟩
 obtain ⟨⟨t, rfl, ht⟩, rfl⟩ := hcut
 clear hn0 h00 h01 hz hz1 hzi
 by_cases htz : t.size = 0
 ·obtain rfl : t = ⟨#[]⟩ := by
   cases t with
   | mk d => congr 1; exact Array.eq_empty_of_size_eq_zero htz
  go_wp2_with fail
  go_ret2;exact ⟨_, _, rfl, rfl⟩
 have hz1 : 0 < t.size := by omega
 have hzi : (0 : Int) < (t.size : Int) := by omega
 have hte : t.toList.isEmpty = false := by
  rw [ByteArray.toList_eq, List.isEmpty_eq_false_iff];intro e;have := len_data t;rw [e] at this;simp at this; omega
 obtain ⟨n0, hn0, h00, h01⟩ := u8b t 0 hz1
 go_wp2_with fail
 go_loop [6] (fun i => ∃ k : Nat, i = .int .i64 (k : Int) /\ k <= t.size) (fun i => t.size - (intOf i).toNat)
 case atStart => exact ⟨0, rfl, Nat.zero_le _⟩
 obtain ⟨k, rfl, hk⟩ := hrel
 by_cases hlt : k < t.size
 ·obtain ⟨n, hn, h0, h1⟩ := u8b t k hlt;have HD := hid (fun W => Hd.out n h0 h1 W);generalize isDigit (bOf n) = b1 at HD;go_wp2_with (go_at_call 63; refine (HD.out _).mono ?_; rintro e w1 ⟨rfl, rfl⟩)
  all_goals first
   | (go_ret2; exact ⟨_, _, rfl, rfl⟩)
   | (go_round
      case rel => exact ⟨k + 1, by go_num, by omega⟩
      simp [intOf]; omega)
 obtain rfl : k = t.size := by omega
 cases q
 all_goals
  go_wp2_with fail
  all_goals first
   | (go_ret2; exact ⟨_, _, rfl, rfl⟩)
   | (go_loop [7, 8] (fun u i => ∃ (k : Nat) (U : Int), u = .int .u64 U /\ i = .int .i64 (k : Int) /\ k <= t.size) (fun _ i => t.size - (intOf i).toNat)
      case atStart => exact ⟨0, 0, rfl, rfl, Nat.zero_le _⟩
      obtain ⟨k, U, rfl, rfl, hk⟩ := hrel;by_cases hlt : k < t.size
      ·obtain ⟨n, hn, h0, h1⟩ := u8b t k hlt;go_wp2_with fail
       go_round
       case rel => exact ⟨k + 1, _, rfl, by go_num, by omega⟩
       simp [intOf]; omega
      obtain rfl : k = t.size := by omega
      go_wp2_with fail
      all_goals (go_ret2; exact ⟨_, _, rfl, rfl⟩))
def PStr (a n : Nat) (w : World) (e : Ending) (w' : World) : Prop := ∃ (t : ByteArray) (r q p : Int), e = .returned (.tuple #[.string t, .int .i64 r, .int .i64 q, .int .i64 p]) /\ t.size <= n /\ (q = 0 -> ∃ m : Nat, r = (m : Int) /\ a < m /\ m <= n) /\ Below w.heap.size w w'
theorem back_size {l : List UInt8} {k n : Nat} (hl : l.length <= k) (hk : k <= n) : (⟨l.toArray⟩ : ByteArray).size <= n := by
 show l.toArray.size <= n
 simp; omega
theorem str_any (s : ByteArray) (a : Nat) (w : World) (hs : s.size <= 1099511627774) (ha : a < s.size) : Calls Tryz.prog 97 #[.string s, .int .i64 (a : Int)] w (PStr a s.size w) := by
 have Hh := hid (fun t n W h0 h1 ht => refHas_any t n h0 h1 ht W)
 go_enter Tryz.func97, Tryz.ntmps97
 go_wp2
 go_loopw [8, 9] (fun b i wr => ∃ (k : Nat) (l : List UInt8), i = .int .i64 (k : Int) /\ a < k /\ k <= s.size /\ l.length <= k /\ Hid (OwnB wr w.heap.size b l) /\ Below w.heap.size w wr) (fun _ i _ => s.size - (intOf i).toNat)
 case atStart => exact ⟨a + 1, [], by go_num, by omega, by omega, by simp, hid (OwnB.nil _ _), Below.refl _ _⟩
 obtain ⟨k, l, rfl, hak, hk, hl, hO, hb⟩ := hrel
 have hz := hb.size
 have hcv := hO.out.back
 obtain ⟨A8, c8, hV8⟩ := hO.out.shape
 subst hV8
 by_cases hlt : k < s.size
 ·obtain ⟨n, hn, h0, h1⟩ := u8b s k hlt;by_cases h92 : n = 92
  ·subst h92;by_cases h2 : k + 1 < s.size
   ·obtain ⟨n2, hn2, h20, h21⟩ := u8b s (k + 1) h2;have HH := hid (fun W => Hh.out ⟨#[110, 116, 92, 34]⟩ n2 W h20 h21 (by decide));generalize hasB (⟨#[110, 116, 92, 34]⟩ : ByteArray).data.toList (bOf n2) = b1 at HH;have h2i : ((k + 1 : Nat) : Int) < (s.size : Int) := by omega
    have hki : (k : Int) + 1 = ((k + 1 : Nat) : Int) := by omega
    have h2j : (k : Int) + 1 < (s.size : Int) := by omega
    clear hki
    go_wp2_with (first
     | (go_at_call 112; refine (HH.out _).mono ?_; rintro e w1 ⟨rfl, rfl⟩)
     | (at_builtin; refine wpl_push1 rfl _ _ rfl w.heap.size _ l _ _ hO.out rfl rfl (by omega) (by omega) (by omega) (by omega) ?_; intro v1 w1 hO1 hb1; have HO1 := hid hO1; clear hO1))
    all_goals first
     | (go_returns; exact ⟨_, _, _, _, rfl, Nat.zero_le _, fun h => absurd h (by decide), hb⟩)
     | (go_roundw
        case rel => exact ⟨k + 2, _, by go_num, by omega, by omega, by rw [List.length_append, List.length_singleton]; omega, HO1, hb.trans hb1⟩
        simp [intOf]; omega)
   have h2j : ¬ (k : Int) + 1 < (s.size : Int) := by omega
   have h2k : (s.size : Int) <= (k : Int) + 1 := by omega
   go_wp2_with fail
   all_goals (go_returns; exact ⟨_, _, _, _, rfl, Nat.zero_le _, fun h => absurd h (by decide), hb⟩)
  have h92b : (n == 92) = false := beq_eq_false_iff_ne.2 h92;go_wp2_with (at_builtin; refine wpl_push1 rfl _ _ rfl w.heap.size _ l _ _ hO.out rfl rfl (by omega) (by omega) (by omega) (by omega) ?_; intro v1 w1 hO1 hb1; have HO1 := hid hO1; clear hO1)
  all_goals first
   | (go_returns; exact ⟨_, _, _, _, rfl, back_size hl hk, fun h => ⟨k + 1, by go_num, by omega, by omega⟩, hb⟩)
   | (go_returns; exact ⟨_, _, _, _, rfl, Nat.zero_le _, fun h => absurd h (by decide), hb⟩)
   | (go_roundw
      case rel => exact ⟨k + 1, _, by go_num, by omega, by omega, by rw [List.length_append, List.length_singleton]; omega, HO1, hb.trans hb1⟩
      simp [intOf]; omega)
 obtain rfl : k = s.size := by omega
 go_wp2
 go_returns
 exact ⟨_, _, _, _, rfl, Nat.zero_le _, fun h => absurd h (by decide), hb⟩
end Go.Proofs.YtkcnmjdomipbjaaGreat
