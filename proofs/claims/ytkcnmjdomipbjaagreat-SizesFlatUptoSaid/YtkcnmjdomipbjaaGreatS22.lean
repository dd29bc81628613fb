import Derived.Test.YtkcnmjdomipbjaaGreatS17
set_option linter.unusedVariables false
set_option maxHeartbeats 100000000
set_option maxRecDepth 100000
namespace Go.Proofs.YtkcnmjdomipbjaaGreat
open Go.RowKit
def PWord (a n : Nat) (w : World) (e : Ending) (w' : World) : Prop := ∃ (k : Int) (t : ByteArray) (ap r q p : Int), e = .returned (.tuple #[.agg #[.int .i64 k, .string t, .int .i64 ap], .int .i64 r, .int .i64 q, .int .i64 p]) /\ t.size <= n /\ (q = 0 -> (k = 3 -> 1 <= t.size) /\ ∃ m : Nat, r = (m : Int) /\ a < m /\ m <= n) /\ Below w.heap.size w w'
theorem ext_sz {s : ByteArray} {a r : Nat} (h1 : a < r) (h2 : r <= s.size) : (s.extract a r).size <= s.size /\ 1 <= (s.extract a r).size := by
 rw [ByteArray.size_extract]; omega
theorem word18_any (s : ByteArray) (a : Nat) (w : World) (hs : s.size <= 1099511627770) (ha : a < s.size) : Calls Tryz.prog 72 #[.string s, .int .i64 (a : Int)] w (PWord a s.size w) := by
 have Hbe := hid (fun W => begin_any s a W (by omega) (by omega))
 have Hbe1 := hid (fun W => begin_any s (a + 1) W (by omega) (by omega))
 have Hna := hid (fun W => name18_any s a W (by omega) (by omega))
 have Hna1 := hid (fun W => name18_any s (a + 1) W (by omega) (by omega))
 have Hdo := hid (fun b W hb => dots_any s b W (by omega) hb)
 obtain ⟨n, hn, h0, h1⟩ := u8b s a ha
 have HD := hid (fun W => refDigit_any n h0 h1 W)
 have Hpa := hid (fun t W ht => parse01_any t W ht)
 have Hstr := hid (fun W => str_any s a W (by omega) ha)
 have Hbeg := hid (fun W => begs_any ⟨#[58, 61]⟩ (s.extract a s.size) W (by decide) (by rw [ByteArray.size_extract]; omega))
 have hexz : (s.extract a s.size).size = s.size - a := by rw [ByteArray.size_extract]; omega
 rw [hexz] at Hbeg
 clear hexz
 have hai : (a : Int) < (s.size : Int) := by omega
 have hwa1 : IntKind.i64.wrap ((a : Int) + 1) = (a : Int) + 1 := IntWalk.i64_in _ (by omega)
 have hwa2 : IntKind.i64.wrap ((a : Int) + 2) = (a : Int) + 2 := IntWalk.i64_in _ (by omega)
 obtain ⟨b0, hb0⟩ := xE (begF s a)
 rw [hb0] at Hbe Hna
 clear hb0
 cases b0 with
 | true =>
  go_enter Tryz.func72, Tryz.ntmps72
  go_upto_region 6 with (first
   | (go_at_call 93; (with_reducible refine (Hbe.out _).mono ?_); rintro e w1 ⟨rfl, hw⟩; obtain rfl := hw)
   | (go_at_call 94; refine (Hna.out _).mono ?_; rintro e w1 ⟨r, rfl, hr, hw⟩; obtain rfl := hw))
  rcases hr with ⟨_, hr⟩ | ⟨_, hr1, hr2⟩
  ·cases hr
  have hwr1 : IntKind.i64.wrap ((r : Int) - (a : Int)) = (r : Int) - (a : Int) := IntWalk.i64_in _ (by omega);by_cases h32 : 32 < (r : Int) - (a : Int)
  ·have h32b := decide_eq_true h32;go_wp2_with fail
   (go_returns; exact ⟨_, _, _, _, _, _, rfl, Nat.zero_le _, fun h => absurd h (by decide), by go_grown⟩)
  have h32b := decide_eq_false h32;go_wp2_with fail
  (go_returns; exact ⟨_, _, _, _, _, _, rfl, (ext_sz hr1 hr2).1, fun _ => ⟨fun _ => (ext_sz hr1 hr2).2, r, by go_num, hr1, hr2⟩, by go_grown⟩)
 | false =>
  by_cases h46 : n = 46
  ·subst h46;have Hna0 := Hna;obtain ⟨b1, hb1⟩ := xE (begF s (a + 1));rw [hb1] at Hbe1;have Hb1 := hid hb1;clear hb1;obtain ⟨a1, ha1⟩ := xE (a + 1);have hwa3 : IntKind.i64.wrap ((a : Int) + 1) = (a1 : Int) := by rw [hwa1]; omega
   have hwa4 : (a : Int) + 1 = (a1 : Int) := by omega
   rw [ha1] at Hbe1 Hb1;clear hwa1 hwa4;cases b1 with
   | false =>
    have hr1 : a < a1 := by omega
    have hr2 : a1 <= s.size := by omega
    go_enter Tryz.func72, Tryz.ntmps72
    go_wp2_with (first
     | (go_at_call 93; (with_reducible refine (Hbe.out _).mono ?_); rintro e w1 ⟨rfl, hw⟩; obtain rfl := hw)
     | (go_at_call 93; (with_reducible refine (Hbe1.out _).mono ?_); rintro e w1 ⟨rfl, hw⟩; obtain rfl := hw))
    (go_returns; exact ⟨_, _, _, _, _, _, rfl, (ext_sz hr1 hr2).1, fun _ => ⟨fun _ => (ext_sz hr1 hr2).2, a1, by go_num, hr1, hr2⟩, by go_grown⟩)
   | true =>
    have hg : dotF s a := ⟨by have := begF_lt Hb1.out; omega, fun h => hn⟩
    have Hd1 := hid (fun W => Hdo.out a W (by omega));have Hg := hid hg;clear hg;go_enter Tryz.func72, Tryz.ntmps72
    go_upto_region 37 with (first
     | (go_at_call 93; (with_reducible refine (Hbe.out _).mono ?_); rintro e w1 ⟨rfl, hw⟩; obtain rfl := hw)
     | (go_at_call 93; (with_reducible refine (Hbe1.out _).mono ?_); rintro e w1 ⟨rfl, hw⟩; obtain rfl := hw)
     | (go_at_call 95; refine (Hd1.out _).mono ?_; rintro e w1 ⟨r, q, rfl, hr1, hr2, hr3, hw⟩; obtain rfl := hw))
    have hr4 := hr3 Hg.out;clear hr3;by_cases hq0 : q = 0
    ·subst hq0;have hr5 := hr4 rfl;have hr6 : r <= s.size := by omega
     go_wp2_with fail
     (go_returns; exact ⟨_, _, _, _, _, _, rfl, (ext_sz hr5 hr6).1, fun _ => ⟨fun _ => (ext_sz hr5 hr6).2, r, by go_num, hr5, hr6⟩, by go_grown⟩)
    have hq1 : (q == 0) = false := beq_eq_false_iff_ne.2 hq0;have hq2 : (q != 0) = true := by rw [bne, hq1]; rfl
    go_wp2_with fail
    (go_returns; exact ⟨_, _, _, _, _, _, rfl, Nat.zero_le _, fun h => absurd h hq0, by go_grown⟩)
  have h46b : (n == 46) = false := beq_eq_false_iff_ne.2 h46;by_cases h36 : n = 36
  ·subst h36;obtain ⟨a1, ha1⟩ := xE (a + 1);have hwa3 : IntKind.i64.wrap ((a : Int) + 1) = (a1 : Int) := by rw [hwa1]; omega
   rw [ha1] at Hna1;clear hwa1;go_enter Tryz.func72, Tryz.ntmps72
   go_upto_region 15 with (first
    | (go_at_call 93; (with_reducible refine (Hbe.out _).mono ?_); rintro e w1 ⟨rfl, hw⟩; obtain rfl := hw)
    | (go_at_call 94; refine (Hna1.out _).mono ?_; rintro e w1 ⟨r, rfl, hr, hw⟩; obtain rfl := hw))
   rcases hr with ⟨rfl, _⟩ | ⟨_, hra, hrb⟩
   ·go_upto_region 20 with fail
    go_upto_region 37 with (go_at_call 95; refine (Hdo.out a1 _ (by omega)).mono ?_; rintro e w2 ⟨rr, q, rfl, hr1, hr2, hr3, hw⟩; obtain rfl := hw)
    clear hr3;by_cases hq0 : q = 0
    ·subst hq0;have hr5 : a < rr := by omega
     have hr6 : rr <= s.size := by omega
     go_wp2_with fail
     (go_returns; exact ⟨_, _, _, _, _, _, rfl, (ext_sz hr5 hr6).1, fun _ => ⟨fun _ => (ext_sz hr5 hr6).2, rr, by go_num, hr5, hr6⟩, by go_grown⟩)
    have hq1 : (q == 0) = false := beq_eq_false_iff_ne.2 hq0;have hq2 : (q != 0) = true := by rw [bne, hq1]; rfl
    go_wp2_with fail
    (go_returns; exact ⟨_, _, _, _, _, _, rfl, Nat.zero_le _, fun h => absurd h hq0, by go_grown⟩)
   have hr0 : (0 : Int) < (r : Int) := by omega
   have hr0d := decide_eq_true hr0;have hwr1 : IntKind.i64.wrap ((r : Int) - (a : Int)) = (r : Int) - (a : Int) := IntWalk.i64_in _ (by omega);have hwr2 : IntKind.i64.wrap ((r : Int) - (a : Int) - 1) = (r : Int) - (a : Int) - 1 := IntWalk.i64_in _ (by omega);by_cases h32 : 32 < (r : Int) - (a : Int) - 1
   ·have h32b := decide_eq_true h32;go_wp2_with fail
    (go_returns; exact ⟨_, _, _, _, _, _, rfl, Nat.zero_le _, fun h => absurd h (by decide), by go_grown⟩)
   have h32b := decide_eq_false h32;go_upto_region 20 with fail
   go_upto_region 37 with (go_at_call 95; refine (Hdo.out r _ (by omega)).mono ?_; rintro e w2 ⟨rr, q, rfl, hr1, hr2, hr3, hw⟩; obtain rfl := hw)
   clear hr3;by_cases hq0 : q = 0
   ·subst hq0;have hr5 : a < rr := by omega
    have hr6 : rr <= s.size := by omega
    go_wp2_with fail
    (go_returns; exact ⟨_, _, _, _, _, _, rfl, (ext_sz hr5 hr6).1, fun _ => ⟨fun _ => (ext_sz hr5 hr6).2, rr, by go_num, hr5, hr6⟩, by go_grown⟩)
   have hq1 : (q == 0) = false := beq_eq_false_iff_ne.2 hq0;have hq2 : (q != 0) = true := by rw [bne, hq1]; rfl
   go_wp2_with fail
   (go_returns; exact ⟨_, _, _, _, _, _, rfl, Nat.zero_le _, fun h => absurd h hq0, by go_grown⟩)
  have h36b : (n == 36) = false := beq_eq_false_iff_ne.2 h36;obtain ⟨bd, hbd⟩ := xE (isDigit (bOf n));rw [hbd] at HD;clear hbd;obtain ⟨bn, hbn⟩ := xE (n == 45 || bd);cases bn with
  | true =>
   obtain ⟨a1, ha1⟩ := xE (a + 1);have hwa3 : IntKind.i64.wrap ((a : Int) + 1) = (a1 : Int) := by rw [hwa1]; omega
   clear hwa1;have Hd := hid (fun n h0 h1 W => refDigit_any n h0 h1 W);by_cases h45 : n = 45
   all_goals
    first
     | (obtain rfl := h45)
     | (obtain rfl : bd = true := by rw [beq_eq_false_iff_ne.2 h45] at hbn; simpa using hbn
        have h45b : (n == 45) = false := beq_eq_false_iff_ne.2 h45)
    clear hbn;go_enter Tryz.func72, Tryz.ntmps72
    go_upto_region 22 with (first
     | (go_at_call 93; (with_reducible refine (Hbe.out _).mono ?_); rintro e w1 ⟨rfl, hw⟩; obtain rfl := hw)
     | (go_at_call 63; refine (HD.out _).mono ?_; rintro e w1 ⟨rfl, rfl⟩))
    go_wp2_with fail
    go_loopg [9] (s.size - a1) (fun g i wx => ∃ k : Nat, i = .int .i64 (k : Int) /\ a1 <= k /\ k <= s.size /\ g = s.size - k /\ wx = ((w.alloc (.cells #[.int .i64 0, .string ⟨#[]⟩, .int .i64 0] 128)).alloc (.cells #[.int .i64 4, .string ⟨#[]⟩, .int .i64 0] 128)))
    case atStart => exact ⟨a1, rfl, Nat.le_refl _, by omega, rfl, rfl⟩
    obtain ⟨k, rfl, hk, hk2, rfl, rfl⟩ := hrel;by_cases hlt : k < s.size
    ·obtain ⟨n2, hn2, h20, h21⟩ := u8b s k hlt;have HD2 := hid (fun W => (Hd.out n2 h20 h21 W).mono fun e w' h => (⟨h.1, h.2.symm⟩ : e = _ /\ w' = W));obtain ⟨b2, hb2⟩ := xE (isDigit (bOf n2));rw [hb2] at HD2;clear hb2;cases b2 with
     | true =>
      go_wp2_with (go_at_call 63; refine (HD2.out _).mono ?_; rintro e w1 ⟨rfl, hw⟩; obtain rfl := hw)
      go_roundg (s.size - (k + 1))
      case measure => omega
      exact ⟨k + 1, by go_num, by omega, by omega, rfl, rfl⟩
     | false =>
      have hk1 : a < k := by omega
      go_upto_region 26 with (first
       | (go_at_call 63; refine (HD2.out _).mono ?_; rintro e w1 ⟨rfl, hw⟩; obtain rfl := hw)
       | (go_at_call 96; refine (Hpa.out _ _ (by rw [ByteArray.size_extract]; omega)).mono ?_; rintro e w2 ⟨pa, pf, rfl, hw⟩; obtain rfl := hw))
      by_cases hp4 : pf = 4
      ·subst hp4;go_wp2_with fail
       (go_returns; exact ⟨_, _, _, _, _, _, rfl, Nat.zero_le _, fun h => absurd h (by decide), by go_grown⟩)
      have hp4b : (pf == 4) = false := beq_eq_false_iff_ne.2 hp4;by_cases hp0 : pf = 0
      ·subst hp0;go_wp2_with fail
       (go_returns; exact ⟨_, _, _, _, _, _, rfl, (ext_sz hk1 hk2).1, fun _ => ⟨fun _ => (ext_sz hk1 hk2).2, k, by go_num, hk1, hk2⟩, by go_grown⟩)
      have hp0b : (pf == 0) = false := beq_eq_false_iff_ne.2 hp0;have hp0c : (pf != 0) = true := by rw [bne, hp0b]; rfl
      go_wp2_with fail
      (go_returns; exact ⟨_, _, _, _, _, _, rfl, Nat.zero_le _, fun h => absurd h (by decide), by go_grown⟩)
    have hke : ¬ (k : Int) < (s.size : Int) := by omega
    have HD2 := HD;have hk1 : a < k := by omega
    go_upto_region 26 with (first
     | (go_at_call 63; refine (HD2.out _).mono ?_; rintro e w1 ⟨rfl, hw⟩; obtain rfl := hw)
     | (go_at_call 96; refine (Hpa.out _ _ (by rw [ByteArray.size_extract]; omega)).mono ?_; rintro e w2 ⟨pa, pf, rfl, hw⟩; obtain rfl := hw))
    by_cases hp4 : pf = 4
    ·subst hp4;go_wp2_with fail
     (go_returns; exact ⟨_, _, _, _, _, _, rfl, Nat.zero_le _, fun h => absurd h (by decide), by go_grown⟩)
    have hp4b : (pf == 4) = false := beq_eq_false_iff_ne.2 hp4;by_cases hp0 : pf = 0
    ·subst hp0;go_wp2_with fail
     (go_returns; exact ⟨_, _, _, _, _, _, rfl, (ext_sz hk1 hk2).1, fun _ => ⟨fun _ => (ext_sz hk1 hk2).2, k, by go_num, hk1, hk2⟩, by go_grown⟩)
    have hp0b : (pf == 0) = false := beq_eq_false_iff_ne.2 hp0;have hp0c : (pf != 0) = true := by rw [bne, hp0b]; rfl
    go_wp2_with fail
    (go_returns; exact ⟨_, _, _, _, _, _, rfl, Nat.zero_le _, fun h => absurd h (by decide), by go_grown⟩)
  | false =>
   have h45b : (n == 45) = false := by cases h : (n == 45) <;> simp_all
   obtain rfl : bd = false := by cases bd <;> simp_all
   clear hbn;by_cases h34 : n = 34
   ·subst h34;go_enter Tryz.func72, Tryz.ntmps72
    go_wp2_with (first
     | (go_at_call 93; (with_reducible refine (Hbe.out _).mono ?_); rintro e w1 ⟨rfl, hw⟩; obtain rfl := hw)
     | (go_at_call 63; refine (HD.out _).mono ?_; rintro e w1 ⟨rfl, rfl⟩)
     | (go_at_call 97; refine (Hstr.out _).mono ?_; rintro e w2 ⟨t, r, q, p, rfl, ht, hq, hb2⟩; have hBk := Blk.below (((Blk.new w 128 #[.int .i64 0, .string ⟨#[]⟩, .int .i64 0]).alloc (.cells #[.int .i64 6, .string ⟨#[]⟩, .int .i64 0] 128))) hb2 (by simp; omega); have c0 : w2.cell? ⟨w.heap.size, 0, none⟩ = some (.int .i64 0) := (hBk.cell 0).trans rfl; have c1 : w2.cell? ⟨w.heap.size, 1, none⟩ = some (.string ⟨#[]⟩) := (hBk.cell 1).trans rfl; have c2 : w2.cell? ⟨w.heap.size, 2, none⟩ = some (.int .i64 0) := (hBk.cell 2).trans rfl; have f0 := hBk.frozen 0; have f1 := hBk.frozen 1; have f2 := hBk.frozen 2; have HBk := hid hBk; clear hBk))
    (try simp only [Exit.inBlock, Exit.then]);refine bodyPost_ret (results_c3 rfl _ _ w.heap.size _ #[.int .i64 5, .string t, .int .i64 0] (0, 0) _ rfl (((HBk.out.set_ 0 _).set_ 1 _).set_ 2 _) Tryz.underlying128 rfl (by kernel_rfl)) rfl ?_;refine ⟨_, _, _, _, _, _, rfl, ht, fun h => ⟨fun h5 => absurd h5 (by decide), hq h⟩, ?_⟩;have hbw : Below w.heap.size w w2 := Below.trans (by go_grown) (hb2.mono (by simp; omega));exact ((hbw.setCell (Nat.le_refl _) _).setCell (Nat.le_refl _) _).setCell (Nat.le_refl _) _
   have h34b : (n == 34) = false := beq_eq_false_iff_ne.2 h34;obtain ⟨a1, ha1⟩ := xE (a + 1);have hwa3 : IntKind.i64.wrap ((a : Int) + 1) = (a1 : Int) := by rw [hwa1]; omega
   clear hwa1;go_enter Tryz.func72, Tryz.ntmps72
   go_upto_region 37 with (first
    | (go_at_call 93; (with_reducible refine (Hbe.out _).mono ?_); rintro e w1 ⟨rfl, hw⟩; obtain rfl := hw)
    | (go_at_call 63; refine (HD.out _).mono ?_; rintro e w1 ⟨rfl, rfl⟩)
    | (go_at_call 35; refine (Hbeg.out _).mono ?_; rintro e w2 ⟨bb, rfl, hbb, hw⟩; obtain rfl := hw))
   all_goals first
    | (have h2 : 2 <= s.size - a := hbb (by first | assumption | rfl | trivial)
       have g1 : a < a + 2 := by omega
       have g2 : a + 2 <= s.size := by omega
       go_wp2_with fail
       (go_returns; exact ⟨_, _, _, _, _, _, rfl, (ext_sz g1 g2).1, fun _ => ⟨fun _ => (ext_sz g1 g2).2, (a + 2), by go_num, g1, g2⟩, by go_grown⟩))
    | (go_wp2_with fail
       (go_returns; exact ⟨_, _, _, _, _, _, rfl, Nat.zero_le _, fun h => absurd h (by decide), by go_grown⟩))
    | (have g1 : a < a1 := by omega
       have g2 : a1 <= s.size := by omega
       go_wp2_with fail
       (go_returns; exact ⟨_, _, _, _, _, _, rfl, (ext_sz g1 g2).1, fun _ => ⟨fun _ => (ext_sz g1 g2).2, a1, by go_num, g1, g2⟩, by go_grown⟩))
end Go.Proofs.YtkcnmjdomipbjaaGreat
