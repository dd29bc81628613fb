import Derived.Deep.LoopGhost
import Derived.Deep.QuietTactic
import Derived.BigQuiet
import Derived.Deep.CutBlock
import Derived.Test.YtkcnmjdomipbjaaGreatS3
import Derived.Test.YtkcnmjdomipbjaaGreatS6
import Derived.Test.YtkcnmjdomipbjaaGreatS8
set_option linter.unusedVariables false
set_option maxHeartbeats 100000000
set_option maxRecDepth 100000
namespace Go.Proofs.YtkcnmjdomipbjaaGreat
open Go.RowKit
def PB (w : World) (e : Ending) (w' : World) : Prop := ∃ b : Bool, e = .returned (.bool b) /\ w' = w
def PS (n : Nat) (w : World) (e : Ending) (w' : World) : Prop := ∃ t : ByteArray, e = .returned (.string t) /\ t.size <= n /\ Below w.heap.size w w'
theorem u8b (s : ByteArray) (k : Nat) (h : k < s.size) : ∃ n : Int, ((s[k]'h).toNat : Int) = n /\ 0 <= n /\ n <= 255 := ⟨_, rfl, by omega, by have := (s[k]'h).toNat_lt; omega⟩
theorem name_any (s : ByteArray) (w : World) (hs : s.size <= 1099511627776) : Calls Tryz.prog 51 #[.string s] w (PB w) := by
 have Hd := hid (fun n h0 h1 W => refDigit_any n h0 h1 W)
 have Hl := hid (fun n h0 h1 W => refLetter_any n h0 h1 W)
 go_enter Tryz.func51, Tryz.ntmps51
 go_wp2
 go_loop [3] (fun i => ∃ k : Nat, i = .int .i64 (k : Int) /\ k <= s.size) (fun i => s.size - (intOf i).toNat)
 case atStart => exact ⟨0, rfl, Nat.zero_le _⟩
 obtain ⟨k, rfl, hk⟩ := hrel
 by_cases hlt : k < s.size
 ·obtain ⟨n, hn, h0, h1⟩ := u8b s k hlt;have HD := hid (fun W => Hd.out n h0 h1 W);have HL := hid (fun W => Hl.out n h0 h1 W);generalize isDigit (bOf n) = b1 at HD;generalize isLetter (bOf n) = b2 at HL
  go_wp2_with (first
   | (go_at_call 63; refine (HD.out _).mono ?_; rintro e w1 ⟨rfl, rfl⟩)
   | (go_at_call 62; refine (HL.out _).mono ?_; rintro e w1 ⟨rfl, rfl⟩))
  all_goals first
   | (go_ret; exact ⟨_, rfl, rfl⟩)
   | (go_round
      case rel => exact ⟨k + 1, by go_num, by omega⟩
      simp [intOf]; omega)
 obtain rfl : k = s.size := by omega
 go_wp2
 all_goals (go_ret; exact ⟨_, rfl, rfl⟩)
def PT (n : Nat) (w : World) (e : Ending) (w' : World) : Prop := ∃ t : ByteArray, e = .returned (.string t) /\ t.size <= n /\ w' = w
def PBeg (m n : Nat) (w : World) (e : Ending) (w' : World) : Prop := ∃ b : Bool, e = .returned (.bool b) /\ (b = true -> m <= n) /\ w' = w
theorem begs_any (p s : ByteArray) (w : World) (hp : p.size <= 1099511627776) (hs : s.size <= 1099511627776) : Calls Tryz.prog 35 #[.string p, .string s] w (PBeg p.size s.size w) := by
 by_cases hl : (p.size : Int) <= s.size
 ·have hll : p.size <= s.size := by omega
  go_enter Tryz.func35, Tryz.ntmps35;go_wp2
  all_goals (go_ret; exact ⟨_, rfl, fun _ => hll, rfl⟩)
 go_enter Tryz.func35, Tryz.ntmps35
 go_wp2
 all_goals (go_ret; exact ⟨_, rfl, fun h => (by cases h), rfl⟩)
theorem trim_any (s : ByteArray) (w : World) (hs : s.size <= 1099511627776) : Calls Tryz.prog 39 #[.string s] w (PT s.size w) := by
 have Hb := hid (fun n h0 h1 W => refBlank_any n h0 h1 W)
 go_enter Tryz.func39, Tryz.ntmps39
 go_wp2
 go_loop [3] (fun i => ∃ k : Nat, i = .int .i64 (k : Int) /\ k <= s.size) (fun i => s.size - (intOf i).toNat)
 case atStart => exact ⟨0, rfl, Nat.zero_le _⟩
 obtain ⟨k, rfl, hk⟩ := hrel
 by_cases hlt : k < s.size
 ·obtain ⟨n, hn, h0, h1⟩ := u8b s k hlt;have HB := hid (fun W => Hb.out n h0 h1 W);obtain ⟨b1, hb1⟩ := xE (isBlank (bOf n));rw [hb1] at HB;clear hb1;cases b1 with
  | true =>
   go_wp2_with (go_at_call 37; refine (HB.out _).mono ?_; rintro e w1 ⟨rfl, rfl⟩)
   go_round
   case rel => exact ⟨k + 1, by go_num, by omega⟩
   simp [intOf]; omega
  | false =>
   go_wp2_with (go_at_call 37; refine (HB.out _).mono ?_; rintro e w1 ⟨rfl, rfl⟩)
   go_wp2
   go_loop [4] (fun j => ∃ b : Nat, j = .int .i64 (b : Int) /\ k <= b /\ b <= s.size) (fun j => (intOf j).toNat)
   case atStart => exact ⟨_, rfl, hk, Nat.le_refl _⟩
   obtain ⟨b, rfl, hb1, hb2⟩ := hrel;by_cases hlt2 : k < b
   ·have q1 : IntKind.i64.wrap ((b : Int) - 1) = ((b - 1 : Nat) : Int) := by rw [show (b : Int) - 1 = ((b - 1 : Nat) : Int) by omega]; exact IntWalk.i64_in _ (by omega)
    obtain ⟨m, hm⟩ := xE (b - 1);rw [hm] at q1;have hms : m < s.size := by omega
    have hmi : (m : Int) < (s.size : Int) := by omega
    have hm0 : (0 : Int) <= (m : Int) := by omega
    obtain ⟨n2, hn2, h20, h21⟩ := u8b s m hms;have HB2 := hid (fun W => Hb.out n2 h20 h21 W);generalize isBlank (bOf n2) = b2 at HB2;go_wp2_with (go_at_call 37; refine (HB2.out _).mono ?_; rintro e w1 ⟨rfl, rfl⟩)
    all_goals first
     | (go_ret; exact ⟨_, rfl, by first | (rw [ByteArray.size_extract]; omega) | simp, rfl⟩)
     | (go_round
        case rel => exact ⟨m, rfl, by omega, by omega⟩
        simp [intOf]; omega)
   obtain rfl : b = k := by omega
   go_wp2
   go_ret;exact ⟨_, rfl, by first | (rw [ByteArray.size_extract]; omega) | simp, rfl⟩
 have hki : ¬ (k : Int) < (s.size : Int) := by omega
 go_wp2
 go_loop [4] (fun j => ∃ b : Nat, j = .int .i64 (b : Int) /\ k <= b /\ b <= s.size) (fun j => (intOf j).toNat)
 case atStart => exact ⟨_, rfl, hk, Nat.le_refl _⟩
 obtain ⟨b, rfl, hb1, hb2⟩ := hrel
 by_cases hlt2 : k < b
 ·have q1 : IntKind.i64.wrap ((b : Int) - 1) = ((b - 1 : Nat) : Int) := by rw [show (b : Int) - 1 = ((b - 1 : Nat) : Int) by omega]; exact IntWalk.i64_in _ (by omega)
  obtain ⟨m, hm⟩ := xE (b - 1);rw [hm] at q1;have hms : m < s.size := by omega
  have hmi : (m : Int) < (s.size : Int) := by omega
  have hm0 : (0 : Int) <= (m : Int) := by omega
  obtain ⟨n2, hn2, h20, h21⟩ := u8b s m hms;have HB2 := hid (fun W => Hb.out n2 h20 h21 W);generalize isBlank (bOf n2) = b2 at HB2;go_wp2_with (go_at_call 37; refine (HB2.out _).mono ?_; rintro e w1 ⟨rfl, rfl⟩)
  all_goals first
   | (go_ret; exact ⟨_, rfl, by first | (rw [ByteArray.size_extract]; omega) | simp, rfl⟩)
   | (go_round
      case rel => exact ⟨m, rfl, by omega, by omega⟩
      simp [intOf]; omega)
 obtain rfl : b = k := by omega
 go_wp2
 go_ret
 exact ⟨_, rfl, by first | (rw [ByteArray.size_extract]; omega) | simp, rfl⟩
def PII (w : World) (e : Ending) (w' : World) : Prop := ∃ a b : Int, e = .returned (.tuple #[.int .i64 a, .int .i64 b]) /\ w' = w
theorem upper_any (s : ByteArray) (w : World) (hs : s.size <= 1099511627775) : Calls Tryz.prog 85 #[.string s] w (PS s.size w) := by
 go_enter Tryz.func85, Tryz.ntmps85
 go_wp2
 go_loopw [3, 4] (fun b i wr => ∃ (k : Nat) (l : List UInt8), k <= s.size /\ l.length = k /\ i = .int .i64 k /\ Hid (OwnB wr w.heap.size b l) /\ Below w.heap.size w wr) (fun _ i _ => s.size - (intOf i).toNat)
 case atStart => exact ⟨0, [], Nat.zero_le _, rfl, rfl, hid (OwnB.nil _ _), Below.refl _ _⟩
 obtain ⟨k, l, hk, hl, rfl, hO, hb⟩ := hrel
 by_cases hlt : k < s.size
 ·obtain ⟨n, hn, h0, h1⟩ := u8b s k hlt;have hz := hb.size;go_wp2_with (at_builtin; refine wpl_push1 rfl _ _ rfl w.heap.size _ _ _ wr hO.out rfl rfl (by omega) (by omega) (by omega) (by omega) ?_; intro v1 w1 hO1 hb1; have HO1 := hid hO1; clear hO1)
  all_goals
   go_roundw
   case rel => exact ⟨k + 1, _, by omega, by rw [List.length_append, hl]; rfl, by go_num, HO1, hb.trans hb1⟩
   simp [intOf]; omega
 obtain rfl : k = s.size := by omega
 have hcv := hO.out.back
 go_wp2
 go_ret
 refine ⟨_, rfl, ?_, hb⟩
 show l.toArray.size <= _
 simp; omega
theorem skip_any (s : ByteArray) (a : Nat) (w : World) (hs : s.size <= 1099511627776) (ha : a <= 1099511627776) : Calls Tryz.prog 34 #[.string s, .int .i64 (a : Int)] w fun e w' => ∃ r : Nat, e = .returned (.int .i64 (r : Int)) /\ a <= r /\ (r <= s.size ∨ r = a) /\ w' = w := by
 have Hb := hid (fun n h0 h1 W => refBlank_any n h0 h1 W)
 go_enter Tryz.func34, Tryz.ntmps34
 go_wp2
 go_loop [1] (fun i => ∃ k : Nat, i = .int .i64 (k : Int) /\ a <= k /\ (k <= s.size ∨ k = a)) (fun i => s.size - (intOf i).toNat)
 case atStart => exact ⟨a, rfl, Nat.le_refl _, .inr rfl⟩
 obtain ⟨k, rfl, hk, hk2⟩ := hrel
 by_cases hlt : k < s.size
 ·obtain ⟨n, hn, h0, h1⟩ := u8b s k hlt;have HB := hid (fun W => Hb.out n h0 h1 W);generalize isBlank (bOf n) = b1 at HB;go_wp2_with (go_at_call 37; refine (HB.out _).mono ?_; rintro e w1 ⟨rfl, rfl⟩)
  all_goals first
   | (go_ret; exact ⟨k, rfl, hk, hk2, rfl⟩)
   | (go_round
      case rel => exact ⟨k + 1, by go_num, by omega, by omega⟩
      simp [intOf]; omega)
 have hlt2 : ¬ (k : Int) < (s.size : Int) := by omega
 go_wp2
 go_ret
 exact ⟨k, rfl, hk, hk2, rfl⟩
theorem back_any (s : ByteArray) (w : World) (hs : s.size <= 1099511627776) : Calls Tryz.prog 38 #[.string s] w (PT s.size w) := by
 have Hb := hid (fun n h0 h1 W => refBlank_any n h0 h1 W)
 go_enter Tryz.func38, Tryz.ntmps38
 go_wp2
 go_loop [3] (fun j => ∃ b : Nat, j = .int .i64 (b : Int) /\ b <= s.size) (fun j => (intOf j).toNat)
 case atStart => exact ⟨_, rfl, Nat.le_refl _⟩
 obtain ⟨b, rfl, hb2⟩ := hrel
 by_cases hlt2 : 0 < b
 ·have q1 : IntKind.i64.wrap ((b : Int) - 1) = ((b - 1 : Nat) : Int) := by rw [show (b : Int) - 1 = ((b - 1 : Nat) : Int) by omega]; exact IntWalk.i64_in _ (by omega)
  obtain ⟨m, hm⟩ := xE (b - 1);rw [hm] at q1;have hms : m < s.size := by omega
  have hmi : (m : Int) < (s.size : Int) := by omega
  have hm0 : (0 : Int) <= (m : Int) := by omega
  obtain ⟨n2, hn2, h20, h21⟩ := u8b s m hms;have HB2 := hid (fun W => Hb.out n2 h20 h21 W);generalize isBlank (bOf n2) = b2 at HB2;go_wp2_with (go_at_call 37; refine (HB2.out _).mono ?_; rintro e w1 ⟨rfl, rfl⟩)
  all_goals first
   | (go_ret; exact ⟨_, rfl, by first | (rw [ByteArray.size_extract]; omega) | simp, rfl⟩)
   | (go_round
      case rel => exact ⟨m, rfl, by omega⟩
      simp [intOf]; omega)
 obtain rfl : b = 0 := by omega
 go_wp2
 go_ret
 exact ⟨_, rfl, by first | (rw [ByteArray.size_extract]; omega) | simp, rfl⟩
def begF (s : ByteArray) (a : Nat) : Bool := if h : a < s.size then isLetter s[a] || (s[a] == 95) else false
theorem begF_lt {s : ByteArray} {a : Nat} (h : begF s a = true) : a < s.size := by
 unfold begF at h
 split at h
 ·assumption
 cases h
theorem begin_any (s : ByteArray) (a : Nat) (w : World) (hs : s.size <= 1099511627776) (ha : a <= 1099511627776) : Calls Tryz.prog 93 #[.string s, .int .i64 (a : Int)] w fun e w' => e = .returned (.bool (begF s a)) /\ w' = w := by
 by_cases hlt : a < s.size
 ·obtain ⟨n, hn, h0, h1⟩ := u8b s a hlt;have HL := hid (fun W => refLetter_any n h0 h1 W);have Hbe : Hid (begF s a = (isLetter (bOf n) || n == 95)) := hid (by
   unfold begF;rw [dif_pos hlt, <- hn, bOf_cast]
   congr 1
   rw [Bool.eq_iff_iff, beq_iff_eq, beq_iff_eq];constructor
   ·intro h; rw [h]; rfl
   intro h; exact UInt8.toNat_inj.1 (by have : (s[a].toNat : Int) = 95 := h; show s[a].toNat = 95; omega))
  obtain ⟨r, hr⟩ := xE (begF s a);rw [hr] at Hbe ⊢;clear hr;generalize isLetter (bOf n) = b1 at HL Hbe;go_enter Tryz.func93, Tryz.ntmps93;go_wp2_with (go_at_call 62; refine (HL.out _).mono ?_; rintro e w1 ⟨rfl, rfl⟩)
  all_goals (go_ret; exact ⟨ret_bool (by rw [Hbe.out]; simp [*]), rfl⟩)
 have Hbe : Hid (begF s a = false) := hid (by unfold begF; rw [dif_neg hlt])
 have hlt2 : ¬ (a : Int) < (s.size : Int) := by omega
 rw [Hbe.out]
 go_enter Tryz.func93, Tryz.ntmps93
 go_wp2
 go_ret
 exact ⟨by first | rfl | trivial, rfl⟩
def PNm (b : Bool) (a n : Nat) (w : World) (e : Ending) (w' : World) : Prop := ∃ r : Nat, e = .returned (.int .i64 (r : Int)) /\ (r = 0 /\ b = false ∨ b = true /\ a < r /\ r <= n) /\ w' = w
theorem name18_any (s : ByteArray) (a : Nat) (w : World) (hs : s.size <= 1099511627775) (ha : a <= 1099511627775) : Calls Tryz.prog 94 #[.string s, .int .i64 (a : Int)] w (PNm (begF s a) a s.size w) := by
 have Hd := hid (fun n h0 h1 W => refDigit_any n h0 h1 W)
 have HB := hid (fun a W ha => begin_any s a W (by omega) ha)
 have Hba := hid (HB.out a w (by omega))
 obtain ⟨b0, hb0⟩ := xE (begF s a)
 rw [hb0] at Hba ⊢
 have Hb0 := hid hb0
 clear hb0
 cases b0 with
 | false =>
  go_enter Tryz.func94, Tryz.ntmps94;go_wp2_with (go_at_call 93; refine Hba.out.mono ?_; rintro e w1 ⟨rfl, hw⟩; obtain rfl := hw)
  go_ret;exact ⟨0, rfl, .inl ⟨rfl, rfl⟩, rfl⟩
 | true =>
  have hal := begF_lt Hb0.out;go_enter Tryz.func94, Tryz.ntmps94;go_wp2_with (go_at_call 93; refine Hba.out.mono ?_; rintro e w1 ⟨rfl, hw⟩; obtain rfl := hw)
  go_loop [1] (fun i => ∃ k : Nat, i = .int .i64 (k : Int) /\ a <= k /\ k <= s.size) (fun i => s.size - (intOf i).toNat)
  case atStart => exact ⟨a, rfl, Nat.le_refl _, by omega⟩
  obtain ⟨k, rfl, hk, hk2⟩ := hrel;by_cases hlt : k < s.size
  ·obtain ⟨n, hn, h0, h1⟩ := u8b s k hlt;have HD := hid (fun W => Hd.out n h0 h1 W);have HBk := hid (fun W => HB.out k W (by omega));have Hka : Hid (begF s k = false -> a < k) := hid (fun h => by
    rcases Nat.lt_or_ge a k with h2 | h2
    ·exact h2
    have e : k = a := by omega
    rw [e, Hb0.out] at h; cases h)
   generalize isDigit (bOf n) = b1 at HD;obtain ⟨b2, hb2⟩ := xE (begF s k);rw [hb2] at HBk Hka;clear hb2;cases b2 with
   | true =>
    go_wp2_with (first
     | (go_at_call 63; refine (HD.out _).mono ?_; rintro e w1 ⟨rfl, rfl⟩)
     | (go_at_call 93; refine (HBk.out _).mono ?_; rintro e w1 ⟨rfl, hw⟩; obtain rfl := hw))
    go_round
    case rel => exact ⟨k + 1, by go_num, by omega, by omega⟩
    simp [intOf]; omega
   | false =>
    have hak := Hka.out rfl
    go_wp2_with (first
     | (go_at_call 63; refine (HD.out _).mono ?_; rintro e w1 ⟨rfl, rfl⟩)
     | (go_at_call 93; refine (HBk.out _).mono ?_; rintro e w1 ⟨rfl, hw⟩; obtain rfl := hw))
    all_goals first
     | (go_ret; exact ⟨k, rfl, .inr ⟨rfl, hak, hk2⟩, rfl⟩)
     | (go_round
        case rel => exact ⟨k + 1, by go_num, by omega, by omega⟩
        simp [intOf]; omega)
  obtain rfl : k = s.size := by omega
  go_wp2
  go_ret;exact ⟨s.size, rfl, .inr ⟨rfl, hal, Nat.le_refl _⟩, rfl⟩
end Go.Proofs.YtkcnmjdomipbjaaGreat
