import Derived.Lib.IndexMore
import Derived.Deep.Cut
import Derived.Deep.CutRange
import Derived.Deep.CutBlock
import Derived.Test.YtkcnmjdomipbjaaGreatS23
set_option linter.unusedVariables false
set_option maxHeartbeats 100000000
set_option maxRecDepth 100000
namespace Go.Proofs.YtkcnmjdomipbjaaGreat
open Go.RowKit
def PFind (m n : Nat) (w : World) (e : Ending) (w' : World) : Prop := ∃ r : Int, e = .returned (.int .i64 r) /\ (r = -1 ∨ ∃ k : Nat, r = (k : Int) /\ k + m <= n) /\ w' = w
theorem find_any (s p : ByteArray) (w : World) (hs : s.size <= 1099511627776) (hp : p.size <= 1099511627776) : Calls Tryz.prog 33 #[.string s, .string p] w (PFind p.size s.size w) :=
 (refFind_any s p hs hp w).mono fun e w' ⟨he, hw⟩ => ⟨_, he, by
  have h1 := Lib.index_ge s.data.toList p.data.toList;by_cases h : 0 <= Lib.index s.data.toList p.data.toList
  ·have h2 := Lib.index_room _ _ h;rw [len_data, len_data] at h2;exact .inr ⟨(Lib.index s.data.toList p.data.toList).toNat, by omega, by omega⟩
  exact .inl (by omega), hw.symm⟩
def itT (l : List It) : Nat := (l.map fun i => i.x.size).sum
theorem itT_snoc (l : List It) (i : It) : itT (l ++ [i]) = itT l + i.x.size := by simp [itT]
def PItems (n : Nat) (w : World) (e : Ending) (w' : World) : Prop := ∃ (A : Option Addr) (c : Nat) (its : List It) (p er : Int), e = .returned (.tuple #[.slice A its.length c, .int .i64 p, .int .i64 er]) /\ its.length <= c /\ DtN 0 w.heap.size w' (.slice A its.length c) (.rows 3 (its.map It.row)) /\ itT its <= n /\ its.length <= n + 1 /\ n <= 16384 /\ Below w.heap.size w w'
def ItSt (w : World) (k : Nat) (out tx : Value) (wr : World) : Prop := ∃ (its : List It) (t : ByteArray), tx = .string t /\ itT its + t.size <= k /\ its.length <= k /\ OwnN 0 w.heap.size wr w.heap.size 107 3 out (its.map It.row) /\ Below w.heap.size w wr
theorem items_any (s : ByteArray) (w : World) (hs : s.size <= 1048576) : Calls Tryz.prog 23 #[.string s] w (PItems (min s.size 16384) w) := by
 have HF := hid (fun s p W hs hp => find_any s p W hs hp)
 have HK := hid (fun a ha W => skip_any s a W (by omega) ha)
 have HG := hid (fun a b W h1 h2 => begs_any a b W h1 h2)
 have HC := hid (fun a ha W => closes_any s a W (by omega) ha)
 have HB := hid (fun s hs W => back_any s W hs)
 have HT := hid (fun s hs W => trim_any s W hs)
 have HL := hid (fun c h0 h1 W => refBlank_any c h0 h1 W)
 by_cases hz : s.size <= 16384
 ·have hzi : ¬ ((16384 : Int) < (s.size : Int)) := by omega
  rw [Nat.min_eq_left hz];go_enter Tryz.func23, Tryz.ntmps23;go_upto_block 0 with fail
  clear hzi;go_cut [5, 6, 7] from 20 (fun out tx pl wx => ItSt w s.size out tx wx /\ ∃ p : Int, pl = .int .i64 p)
  case first => as_aux_lemma =>
   go_wp2_with fail
   go_loopw [5, 6, 7, 8, 9] (fun out tx pl tr i wr => ∃ (k : Nat) (p : Int) (b : Bool), k <= s.size /\ i = .int .i64 (k : Int) /\ pl = .int .i64 p /\ tr = .bool b /\ ItSt w k out tx wr) (fun _ _ _ _ i _ => s.size - (intOf i).toNat)
   case atStart => exact ⟨0, 0, false, Nat.zero_le _, rfl, rfl, rfl, [], _, rfl, Nat.le_refl _, Nat.le_refl _, OwnN.nil, Below.refl _ _⟩
   obtain ⟨k, p, b, hk, rfl, rfl, rfl, its, t, rfl, hT, hil, hO, hb⟩ := hrel;have HO := hid hO;have Hb := hid hb;obtain ⟨Av, cv, rfl⟩ := hO.shape (n := its.length) (by simp);clear hO hb;obtain ⟨W0, rfl⟩ := xS wr;have hki : (k : Int) <= (s.size : Int) := by omega
   obtain ⟨z, hz'⟩ := xE (s.extract k s.size);have hzz : z.size = s.size - k := by rw [<- hz', ByteArray.size_extract]; omega
   have HF1 := hid (HF.out z ⟨#[123, 123]⟩ · (by omega) (by decide));have HK1 := hid (HK.out k (by omega));go_upto_region 8 with (go_at_call 33; refine (HF1.out _).mono ?_; rintro e w1 ⟨r, rfl, hr, hw⟩; obtain rfl := hw)
   obtain ⟨W0, rfl⟩ := xS w1;clear hz';rcases hr with hr | ⟨m, hr, hm⟩
   ·subst hr;have ho1 : k <= s.size := hk;go_upto_if 39 with fail
    go_cut [12] from 23 to 160 (fun f wx => ∃ fn : Nat, f = .int .i64 (fn : Int) /\ k <= fn /\ fn <= s.size /\ wx = W0)
    case first => as_aux_lemma =>
     cases b
     ·go_wp2_with fail
      go_meet;exact ⟨k, rfl, Nat.le_refl _, ho1, rfl⟩
     go_wp2_with (go_at_call 34; refine (HK1.out _).mono ?_; rintro e w1 ⟨r2, rfl, hr3, hr4, hw⟩; obtain rfl := hw)
     all_goals (
      go_meet
      first
       | exact ⟨r2, rfl, by omega, by omega, rfl⟩
       | exact ⟨s.size, rfl, by omega, by omega, rfl⟩
       | exact ⟨min r2 (s.size), congrArg _ (by omega), by omega, by omega, rfl⟩)
    obtain ⟨f, rfl, hf1, hf2, hwc⟩ := hcut;obtain rfl := hwc;obtain ⟨W0, rfl⟩ := xS wc;go_upto_if 47 with fail
    go_cut [6, 7, 8] from 23 to 160 (fun tx pl tr wx => ∃ (t2 : ByteArray) (p2 : Int) (b2 : Bool), tx = .string t2 /\ t2.size <= t.size + (s.size - k) /\ pl = .int .i64 p2 /\ tr = .bool b2 /\ wx = W0)
    case first => as_aux_lemma =>
     by_cases hfo : f < s.size
     ·have hfoi : (f : Int) < (s.size : Int) := by omega
      have hfoj : (f : Int) <= (s.size : Int) := by omega
      have hoz : (s.size : Int) <= (s.size : Int) := by omega
      obtain ⟨qe, hqe⟩ := xE t.toList.isEmpty;obtain ⟨y, hy⟩ := xE (s.extract f (s.size));have hyz : y.size <= s.size - k := by rw [<- hy, ByteArray.size_extract]; omega
      have hyz2 : y.size <= 1048576 := by omega
      have htz2 : t.size <= 1048576 := by omega
      clear HF HC HB HT HL HG;cases qe
      all_goals (
       go_wp2_with fail
       go_meet;exact ⟨_, _, _, rfl, by rw [ByteArray.size_append]; omega, rfl, rfl, rfl⟩)
     have hfoi : ¬ ((f : Int) < (s.size : Int)) := by omega
     go_wp2_with fail
     go_meet;exact ⟨t, _, _, rfl, by omega, rfl, rfl, rfl⟩
    obtain ⟨t2, p2, b2, rfl, ht2, rfl, rfl, hwc⟩ := hcut;obtain rfl := hwc;obtain ⟨W0, rfl⟩ := xS wc;go_wp2_with fail
    go_meet;exact ⟨⟨its, t2, rfl, by omega, by omega, HO.out, Hb.out⟩, _, rfl⟩
   subst hr;obtain ⟨o, ho⟩ := xE (k + m);have ho1 : k <= o := by omega
   have hm2 : m + 2 <= z.size := hm;have ho2 : o + 2 <= s.size := by omega
   have hoi : (k : Int) + (m : Int) = (o : Int) := by omega
   have hr := hm;have hm0 : ¬ ((m : Int) < 0) := by omega
   go_upto_if 39 with fail
   go_cut [12] from 23 to 160 (fun f wx => ∃ fn : Nat, f = .int .i64 (fn : Int) /\ k <= fn /\ fn <= o /\ wx = W0)
   case first => as_aux_lemma =>
    cases b
    ·go_wp2_with fail
     go_meet;exact ⟨k, rfl, Nat.le_refl _, ho1, rfl⟩
    go_wp2_with (go_at_call 34; refine (HK1.out _).mono ?_; rintro e w1 ⟨r2, rfl, hr3, hr4, hw⟩; obtain rfl := hw)
    all_goals (
     go_meet
     first
      | exact ⟨r2, rfl, by omega, by omega, rfl⟩
      | exact ⟨o, rfl, by omega, by omega, rfl⟩
      | exact ⟨min r2 (o), congrArg _ (by omega), by omega, by omega, rfl⟩)
   obtain ⟨f, rfl, hf1, hf2, hwc⟩ := hcut;obtain rfl := hwc;obtain ⟨W0, rfl⟩ := xS wc;go_upto_if 47 with fail
   go_cut [6, 7, 8] from 23 to 160 (fun tx pl tr wx => ∃ (t2 : ByteArray) (p2 : Int) (b2 : Bool), tx = .string t2 /\ t2.size <= t.size + (o - k) /\ pl = .int .i64 p2 /\ tr = .bool b2 /\ wx = W0)
   case first => as_aux_lemma =>
    by_cases hfo : f < o
    ·have hfoi : (f : Int) < (o : Int) := by omega
     have hfoj : (f : Int) <= (o : Int) := by omega
     have hoz : (o : Int) <= (s.size : Int) := by omega
     obtain ⟨qe, hqe⟩ := xE t.toList.isEmpty;obtain ⟨y, hy⟩ := xE (s.extract f (o));have hyz : y.size <= o - k := by rw [<- hy, ByteArray.size_extract]; omega
     have hyz2 : y.size <= 1048576 := by omega
     have htz2 : t.size <= 1048576 := by omega
     clear HF HC HB HT HL HG;cases qe
     all_goals (
      go_wp2_with fail
      go_meet;exact ⟨_, _, _, rfl, by rw [ByteArray.size_append]; omega, rfl, rfl, rfl⟩)
    have hfoi : ¬ ((f : Int) < (o : Int)) := by omega
    go_wp2_with fail
    go_meet;exact ⟨t, _, _, rfl, by omega, rfl, rfl, rfl⟩
   obtain ⟨t2, p2, b2, rfl, ht2, rfl, rfl, hwc⟩ := hcut;obtain rfl := hwc;obtain ⟨W0, rfl⟩ := xS wc;go_upto_region 22 with fail
   obtain ⟨x0, hx0⟩ := xE (s.extract (o + 2) s.size);have hx0z : x0.size = s.size - (o + 2) := by rw [<- hx0, ByteArray.size_extract]; omega
   have hG0 := hid (HG.out ⟨#[45]⟩ x0 · (by decide) (by omega));have ho2i : (o : Int) + 2 <= (s.size : Int) := by omega
   have ht2z : t2.size <= 1048576 := by omega
   go_upto_if 65 with (go_at_call 35; refine (hG0.out _).mono ?_; rintro e w3 ⟨bb, rfl, hbb, hw⟩; obtain rfl := hw)
   obtain ⟨W0, rfl⟩ := xS w3;clear hx0 hm0 hoi;go_cut [14] from 23 to 160 (fun v wx => ∃ bn : Nat, v = .int .i64 (bn : Int) /\ o + 2 <= bn /\ bn <= s.size /\ wx = W0)
   case first => as_aux_lemma =>
    cases bb
    ·go_wp2_with fail
     go_meet;exact ⟨o + 2, by go_num, Nat.le_refl _, ho2, rfl⟩
    have := hbb rfl;have h3 : o + 3 <= s.size := by have h4 : 1 <= x0.size := this; omega
    clear hbb this;go_wp2_with fail
    go_meet;exact ⟨o + 3, congrArg _ (by omega), by omega, h3, rfl⟩
   case rest => as_aux_lemma =>
    obtain ⟨bn, rfl, hbn1, hbn2, hwc⟩ := hcut;obtain rfl := hwc;clear hbb hG0 hx0z x0;have HK2 := hid (HK.out bn (by omega));go_upto_region 25 with (go_at_call 34; refine (HK2.out _).mono ?_; rintro e w3 ⟨bd, rfl, hbd1, hbd2, hw⟩; obtain rfl := hw)
    have hbd3 : bd <= s.size := by omega
    have hbdi : (bd : Int) <= (s.size : Int) := by omega
    obtain ⟨x1, hx1⟩ := xE (s.extract bd s.size);have hx1z : x1.size = s.size - bd := by rw [<- hx1, ByteArray.size_extract]; omega
    have hG1 := hid (HG.out ⟨#[47, 42]⟩ x1 · (by decide) (by omega));go_upto_if 76 with (go_at_call 35; refine (hG1.out _).mono ?_; rintro e w4 ⟨rm, rfl, hrm, hw⟩; obtain rfl := hw)
    obtain ⟨W0, rfl⟩ := xS w4;have Hrm := hid hrm;clear hx1 HK2 hrm hG1;go_cut [16] from 23 to 160 (fun v wx => ∃ lk : Nat, v = .int .i64 (lk : Int) /\ o + 2 <= lk /\ lk <= s.size /\ wx = W0)
    case first => as_aux_lemma =>
     cases rm
     ·go_wp2_with fail
      go_meet;exact ⟨o + 2, by go_num, Nat.le_refl _, ho2, rfl⟩
     have hx1b : 2 <= x1.size := Hrm.out rfl;have hb2 : bd + 2 <= s.size := by omega
     have hb2i : (bd : Int) + 2 <= (s.size : Int) := by omega
     obtain ⟨x2, hx2⟩ := xE (s.extract (bd + 2) s.size);have hx2z : x2.size = s.size - (bd + 2) := by rw [<- hx2, ByteArray.size_extract]; omega
     have HF2 := hid (HF.out x2 ⟨#[42, 47]⟩ · (by omega) (by decide));go_upto_region 29 with (go_at_call 33; refine (HF2.out _).mono ?_; rintro e w5 ⟨r3, rfl, hr3, hw⟩; obtain rfl := hw)
     clear hx2;rcases hr3 with hr3 | ⟨m3, hr3, hm3⟩
     ·subst hr3;go_wp2_with fail
      go_ret3
      exact ⟨none, 0, [], _, _, rfl, Nat.le_refl _, DtV.none_, Nat.zero_le _, Nat.zero_le _, hz, Hb.out⟩
     subst hr3;have hm4 : m3 + 2 <= x2.size := hm3;have hm5 : ¬ ((m3 : Int) < 0) := by omega
     clear hm3;go_wp2_with fail
     go_meet;exact ⟨bd + 2 + m3 + 2, congrArg _ (by omega), by omega, by omega, rfl⟩
    obtain ⟨lk, rfl, hlk1, hlk2, hwc⟩ := hcut;obtain rfl := hwc;clear Hrm hx1z x1;have HC1 := hid (HC.out lk (by omega));go_upto_region 33 with (go_at_call 36; refine (HC1.out _).mono ?_; rintro e w5 ⟨r4, rfl, hr4, hw⟩; obtain rfl := hw)
    rcases hr4 with hr4 | ⟨hr4, hr5⟩
    ·subst hr4;go_wp2_with fail
     go_ret3
     exact ⟨none, 0, [], _, _, rfl, Nat.le_refl _, DtV.none_, Nat.zero_le _, Nat.zero_le _, hz, Hb.out⟩
    obtain ⟨e4, he4⟩ : ∃ e4 : Nat, r4 = (e4 : Int) := ⟨r4.toNat, by omega⟩
    subst he4;have he5 : ¬ ((e4 : Int) < 0) := by omega
    have he6 : lk <= e4 := by omega
    have he7 : e4 + 2 <= s.size := by omega
    clear hr4 hr5 HC1;have he8 : o + 2 <= e4 := by omega
    have he8i : (o : Int) + 2 <= (e4 : Int) := by omega
    have he9i : (e4 : Int) <= (s.size : Int) := by omega
    obtain ⟨y, hy⟩ := xE (s.extract (o + 2) e4);have hyz : y.size = e4 - (o + 2) := by rw [<- hy, ByteArray.size_extract]; omega
    go_upto_region 36 with fail
    rw [hy];clear hy he9i he8i he5;obtain ⟨W0, rfl⟩ := xS w5;go_cut [112] from 23 to 160 (fun c wx => ∃ b : Bool, c = .bool b /\ (b = true -> 1 < y.size) /\ wx = W0)
    case first => as_aux_lemma =>
     by_cases h1y : 1 < y.size
     ·have h1yi : (1 : Int) < (y.size : Int) := by omega
      obtain ⟨n0, hn0, hn00, hn01⟩ := u8b y 0 (by omega);obtain ⟨n1, hn1, hn10, hn11⟩ := u8b y 1 h1y;have HL1 := hid (HL.out n1 hn10 hn11);generalize isBlank (bOf n1) = bq at HL1;obtain ⟨q0, hq0⟩ := xE (n0 == 45);go_wp2_with (go_at_call 37; refine (HL1.out _).mono ?_; rintro e w6 ⟨rfl, rfl⟩)
      all_goals (
       go_meet;exact ⟨_, rfl, fun _ => h1y, rfl⟩)
     have h1yi : ¬ ((1 : Int) < (y.size : Int)) := by omega
     go_wp2_with fail
     go_meet;exact ⟨_, rfl, (fun h => by cases h), rfl⟩
    case rest => as_aux_lemma =>
     obtain ⟨b, rfl, hby, hwc⟩ := hcut;obtain rfl := hwc;obtain ⟨W0, rfl⟩ := xS wc;go_upto_if 112 with fail
     go_cut [6, 19] from 23 to 160 (fun tx ty wx => ∃ t3 y3 : ByteArray, tx = .string t3 /\ t3.size <= t2.size /\ ty = .string y3 /\ y3.size <= y.size /\ wx = W0)
     case first => as_aux_lemma =>
      cases b
      ·go_wp2_with fail
       go_meet;exact ⟨t2, y, rfl, Nat.le_refl _, rfl, Nat.le_refl _, rfl⟩
      have h1y := hby rfl;have h1yi : (1 : Int) <= (y.size : Int) := by omega
      have HB2 := hid (HB.out t2 (by omega));clear hby;go_wp2_with (go_at_call 38; refine (HB2.out _).mono ?_; rintro e w6 ⟨t3, rfl, ht3, hw⟩; obtain rfl := hw)
      go_meet;exact ⟨t3, _, rfl, ht3, rfl, by rw [ByteArray.size_extract]; omega, rfl⟩
     obtain ⟨t3, y3, rfl, ht3, rfl, hy3, hwc⟩ := hcut;obtain rfl := hwc;clear hby;obtain ⟨W0, rfl⟩ := xS wc;have hy3z : y3.size <= 1048576 := by omega
     go_upto_region 39 with fail
     go_cut [8] from 23 to 160 (fun tr wx => ∃ b3 : Bool, tr = .bool b3 /\ (b3 = true -> 1 < y3.size) /\ wx = W0)
     case first => as_aux_lemma =>
      by_cases h1y : 1 < y3.size
      ·have h1yi : (1 : Int) < (y3.size : Int) := by omega
       obtain ⟨m1, hm1⟩ : ∃ m1, y3.size = m1 + 1 := ⟨y3.size - 1, by omega⟩
       obtain ⟨m2, hm2'⟩ : ∃ m2, y3.size = m2 + 2 := ⟨y3.size - 2, by omega⟩
       have q1 : IntKind.i64.wrap ((y3.size : Int) - 1) = (m1 : Int) := by rw [show (y3.size : Int) - 1 = (m1 : Int) by omega]; exact IntWalk.i64_in _ (by omega)
       have q2 : IntKind.i64.wrap ((y3.size : Int) - 2) = (m2 : Int) := by rw [show (y3.size : Int) - 2 = (m2 : Int) by omega]; exact IntWalk.i64_in _ (by omega)
       have l1 : m1 < y3.size := by omega
       have l2 : m2 < y3.size := by omega
       have l1i : (m1 : Int) < (y3.size : Int) := by omega
       have l2i : (m2 : Int) < (y3.size : Int) := by omega
       have g1 : (0 : Int) <= (m1 : Int) := by omega
       have g2 : (0 : Int) <= (m2 : Int) := by omega
       obtain ⟨n0, hn0, hn00, hn01⟩ := u8b y3 m1 l1;obtain ⟨n1, hn1, hn10, hn11⟩ := u8b y3 m2 l2;have HL1 := hid (HL.out n1 hn10 hn11);generalize isBlank (bOf n1) = bq at HL1;obtain ⟨q0, hq0⟩ := xE (n0 == 45);clear hm1 hm2';go_wp2_with (go_at_call 37; refine (HL1.out _).mono ?_; rintro e w6 ⟨rfl, rfl⟩)
       all_goals (
        go_meet;exact ⟨_, rfl, fun _ => h1y, rfl⟩)
      have h1yi : ¬ ((1 : Int) < (y3.size : Int)) := by omega
      go_wp2_with fail
      go_meet;exact ⟨_, rfl, (fun h => by cases h), rfl⟩
     obtain ⟨b3, rfl, hb3, hwc⟩ := hcut;obtain rfl := hwc;obtain ⟨W0, rfl⟩ := xS wc;go_upto_if 136 with fail
     go_cut [19] from 23 to 160 (fun ty wx => ∃ y4 : ByteArray, ty = .string y4 /\ y4.size <= y3.size /\ wx = W0)
     case first => as_aux_lemma =>
      cases b3
      ·go_wp2_with fail
       go_meet;exact ⟨y3, rfl, Nat.le_refl _, rfl⟩
      have h1y := hb3 rfl;obtain ⟨m1, hm1⟩ : ∃ m1, y3.size = m1 + 1 := ⟨y3.size - 1, by omega⟩
      have q1 : IntKind.i64.wrap ((y3.size : Int) - 1) = (m1 : Int) := by rw [show (y3.size : Int) - 1 = (m1 : Int) by omega]; exact IntWalk.i64_in _ (by omega)
      have l1i : (m1 : Int) <= (y3.size : Int) := by omega
      have g1 : (0 : Int) <= (m1 : Int) := by omega
      have hm1' : m1 <= y3.size := by omega
      clear hm1 hb3;go_wp2_with fail
      go_meet;exact ⟨_, rfl, by rw [ByteArray.size_extract]; omega, rfl⟩
     obtain ⟨y4, rfl, hy4, hwc⟩ := hcut;obtain rfl := hwc;clear hb3;have HT1 := hid (HT.out y4 (by omega));cases rm
     ·obtain ⟨qe, hqe⟩ := xE t3.toList.isEmpty;go_upto_if 145 with fail
      obtain ⟨W0, rfl⟩ := xS wc;have hz0 := Hb.out.size;go_cut [5] from 23 to 160 (fun out wx => ∃ its2 : List It, itT its2 <= itT its + t3.size /\ its2.length <= its.length + 1 /\ OwnN 0 w.heap.size wx w.heap.size 107 3 out (its2.map It.row) /\ Below w.heap.size w wx)
      case first => as_aux_lemma =>
       cases qe
       ·go_wp2_with (at_builtin; refine wpl_pushX rfl _ _ rfl Tryz.underlying70 info_Item HO.out rfl (us := [.int .i64 1, .string t3, .int .i64 p2]) (r := It.row ⟨1, t3, p2⟩) ⟨_, _, rfl, DtV.int, _, _, rfl, DtV.str, _, _, rfl, DtV.int, rfl⟩ rfl rfl (by rw [List.length_map]; omega) hz0 ?_; intro v1 w6 hO6 hb6 _ _; rw [<- List.map_singleton (f := It.row), <- List.map_append] at hO6; have HO6 := hid hO6; clear hO6)
        go_meet;exact ⟨_, by rw [itT_snoc]; exact Nat.le_refl _, by simp, HO6.out, Hb.out.trans hb6⟩
       go_wp2_with fail
       go_meet;exact ⟨its, by omega, by omega, HO.out, Hb.out⟩
      obtain ⟨its2, hit, hil2, hO2, hb2⟩ := hcut;have HO2 := hid hO2;have Hb2 := hid hb2;obtain ⟨A2, c2, rfl⟩ := hO2.shape (n := its2.length) (by simp);have hz2 := hb2.size;clear hO2 hb2 hz0
      go_wp2_with (first
       | (go_at_call 39; refine (HT1.out _).mono ?_; rintro e w6 ⟨y5, rfl, hy5, hw⟩; obtain rfl := hw)
       | (at_builtin; refine wpl_pushX rfl _ _ rfl Tryz.underlying70 info_Item HO2.out rfl (us := [.int .i64 2, .string y5, .int .i64 (o : Int)]) (r := It.row ⟨2, y5, (o : Int)⟩) ⟨_, _, rfl, DtV.int, _, _, rfl, DtV.str, _, _, rfl, DtV.int, rfl⟩ rfl rfl (by rw [List.length_map]; omega) hz2 ?_; intro v1 w7 hO7 hb7 _ _; rw [<- List.map_singleton (f := It.row), <- List.map_append] at hO7; have HO7 := hid hO7; clear hO7))
      go_roundw
      case rel => exact ⟨e4 + 2, p2, b3, he7, by go_num, rfl, rfl, _, _, rfl, by rw [itT_snoc]; show _ + y5.size + 0 <= _; omega, by simp; omega, HO7.out, Hb2.out.trans hb7⟩
      simp [intOf]; omega
     go_wp2_with fail
     go_roundw
     case rel => exact ⟨e4 + 2, p2, b3, he7, by go_num, rfl, rfl, its, t3, rfl, by omega, by omega, HO.out, Hb.out⟩
     simp [intOf]; omega
  obtain ⟨⟨its, t, rfl, hT, hil, hO, hb⟩, p, rfl⟩ := hcut;have HO := hid hO;have Hb := hid hb;have hz0 := hb.size;obtain ⟨Av, cv, rfl⟩ := hO.shape (n := its.length) (by simp);clear hO hb;obtain ⟨qe, hqe⟩ := xE t.toList.isEmpty;cases qe
  ·go_wp2_with (at_builtin; refine wpl_pushX rfl _ _ rfl Tryz.underlying70 info_Item HO.out rfl (us := [.int .i64 1, .string t, .int .i64 p]) (r := It.row ⟨1, t, p⟩) ⟨_, _, rfl, DtV.int, _, _, rfl, DtV.str, _, _, rfl, DtV.int, rfl⟩ rfl rfl (by rw [List.length_map]; omega) hz0 ?_; intro v1 w6 hO6 hb6 _ _; rw [<- List.map_singleton (f := It.row), <- List.map_append] at hO6; obtain ⟨its2, hi2⟩ := xE (its ++ [(⟨1, t, p⟩ : It)]); rw [hi2] at hO6; have Hi2 := hid hi2; clear hi2; obtain ⟨A1, cv1, rfl⟩ := hO6.shape (n := its2.length) (by rw [List.length_map]); have HO6 := hid hO6; clear hO6)
   go_ret3
   exact ⟨_, _, its2, _, _, rfl, OwnN.cap HO6.out, OwnN.dt HO6.out rfl (Nat.le_refl _), by rw [<- Hi2.out, itT_snoc]; exact hT, by rw [<- Hi2.out]; simp; omega, hz, Hb.out.trans hb6⟩
  go_wp2_with fail
  go_ret3
  exact ⟨_, _, its, _, _, rfl, OwnN.cap HO.out, OwnN.dt HO.out rfl (Nat.le_refl _), by omega, by omega, hz, Hb.out⟩
 have hzi : (16384 : Int) < (s.size : Int) := by omega
 go_enter Tryz.func23, Tryz.ntmps23
 go_wp2_with fail
 go_ret3
 exact ⟨none, 0, [], _, _, rfl, Nat.le_refl _, DtV.none_, Nat.zero_le _, Nat.zero_le _, by omega, Below.refl _ _⟩
end Go.Proofs.YtkcnmjdomipbjaaGreat
