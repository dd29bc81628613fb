import Derived.Deep.QuietTactic
import Derived.BigQuiet
import Derived.Deep.CutBlock
import Derived.Deep.RegionWith
import Derived.Test.YtkcnmjdomipbjaaGreatS20
set_option linter.unusedVariables false
set_option maxHeartbeats 100000000
set_option maxRecDepth 100000
namespace Go.Proofs.YtkcnmjdomipbjaaGreat
open Go.RowKit
theorem bOf_is' (n k : Int) (h0 : 0 <= n) (h1 : n <= 255) (k0 : 0 <= k) (k1 : k <= 255) {c : UInt8} (hc : bOf k = c) : (bOf n = c) ↔ n = k := by
 subst hc; exact bOf_eq n k h0 h1 k0 k1
theorem tPlain_int (w : List UInt8) (n : Int) (h0 : 0 <= n) (h1 : n <= 255) : cCode w (bOf n) =
 if isLetter (bOf n) ∨ isDigit (bOf n) ∨ n = 45 ∨ n = 95 then (if w = [63] then (0, [63]) else if w.length < 16 then (0, w ++ [lowB (bOf n)]) else (0, w))
 else if n = 40 then (if w = [117, 114, 108] then (8, []) else if w = [63] then (9, []) else (0, []))
 else if n = 92 then (9, []) else if n = 34 then (1, []) else if n = 39 then (2, []) else if n = 47 then (5, []) else (0, []) := by
 unfold cCode isWordy
 simp only [bOf_is' n 40 h0 h1 (by omega) (by omega) (c := 40) rfl, bOf_is' n 92 h0 h1 (by omega) (by omega) (c := 92) rfl, bOf_is' n 34 h0 h1 (by omega) (by omega) (c := 34) rfl, bOf_is' n 39 h0 h1 (by omega) (by omega) (c := 39) rfl, bOf_is' n 47 h0 h1 (by omega) (by omega) (c := 47) rfl,
  Bool.or_eq_true, beq_iff_eq, bOf_is' n 45 h0 h1 (by omega) (by omega) (c := 45) rfl, bOf_is' n 95 h0 h1 (by omega) (by omega) (c := 95) rfl, or_assoc]
theorem tStep_int (p : Int) (w : List UInt8) (n : Int) (h0 : 0 <= n) (h1 : n <= 255) : cStep p w (bOf n) =
 if p = 0 then cCode w (bOf n) else if p = 1 ∨ p = 2 then (if (p = 1 /\ n = 34) ∨ (p = 2 /\ n = 39) then (0, []) else if n = 92 then (p + 2, []) else if n = 10 ∨ n = 13 then (9, []) else (p, [])) else if p = 3 ∨ p = 4 then (p - 2, []) else
 if p = 5 then (if n = 42 then (6, []) else cCode [] (bOf n)) else if p = 6 ∨ p = 7 then (if n = 42 then (7, []) else if n = 47 /\ p = 7 then (0, []) else (6, [])) else if p = 8 then (if n = 41 then (0, []) else (8, [])) else (9, []) := by
 unfold cStep cQuoted cRemark
 simp only [bOf_is' n 41 h0 h1 (by omega) (by omega) (c := 41) rfl, bOf_is' n 42 h0 h1 (by omega) (by omega) (c := 42) rfl, bOf_is' n 47 h0 h1 (by omega) (by omega) (c := 47) rfl, bOf_is' n 92 h0 h1 (by omega) (by omega) (c := 92) rfl, bOf_is' n 34 h0 h1 (by omega) (by omega) (c := 34) rfl, bOf_is' n 39 h0 h1 (by omega) (by omega) (c := 39) rfl, bOf_is' n 10 h0 h1 (by omega) (by omega) (c := 10) rfl, bOf_is' n 13 h0 h1 (by omega) (by omega) (c := 13) rfl]
 rcases Int.lt_trichotomy p 0 with h | h | h
 ·rw [if_neg (by omega), if_neg (by omega), if_neg (by omega), if_neg (by omega), if_neg (by omega), if_neg (by omega), if_neg (by omega), if_neg (by omega), if_neg (by omega), if_neg (by omega)]
 ·subst h; rfl
 by_cases h9 : p <= 8
 ·obtain rfl | rfl | rfl | rfl | rfl | rfl | rfl | rfl : p = 1 ∨ p = 2 ∨ p = 3 ∨ p = 4 ∨ p = 5 ∨ p = 6 ∨ p = 7 ∨ p = 8 := by omega
  all_goals simp
  all_goals (repeat' split) <;> simp_all
 rw [if_neg (by omega), if_neg (by omega), if_neg (by omega), if_neg (by omega), if_neg (by omega), if_neg (by omega), if_neg (by omega), if_neg (by omega), if_neg (by omega), if_neg (by omega)]
theorem refPlain_any (wd : ByteArray) (n : Int) (h0 : 0 <= n) (h1 : n <= 255) (w : World) :
  Calls Tryz.prog 148 #[.string wd, .int .u8 n] w (RIntStr w (cCode wd.data.toList (bOf n)).1 (cCode wd.data.toList (bOf n)).2) := by
 have hu := hid (tPlain_int wd.data.toList n h0 h1)
 have Hl := hid (len_data wd)
 have hco := fun (m : Int) (h0 : 0 <= m) (h1 : m <= 255) W => conv_one (P := Tryz.prog) m W 62 9 5 Tryz.underlying62 Tryz.underlying5 Tryz.underlying9 h0 h1
 have htl := hid (ByteArray.toList_eq wd)
 have hcase : (wd.toList == [63]) = true /\ wd.toList = [63] ∨ (wd.toList == [63]) = false /\ ¬ wd.toList = [63] /\ wd.size < 16 ∨ (wd.toList == [63]) = false /\ ¬ wd.toList = [63] /\ ¬ wd.size < 16 := by
  by_cases h : wd.toList = [63]
  ·exact .inl ⟨beq_iff_eq.2 h, h⟩
  by_cases h2 : wd.size < 16
  ·exact .inr (.inl ⟨beq_eq_false_iff_ne.2 h, h, h2⟩)
  exact .inr (.inr ⟨beq_eq_false_iff_ne.2 h, h, h2⟩)
 rcases hcase with ⟨hqb, hq1⟩ | ⟨hqb, hq1, hq⟩ | ⟨hqb, hq1, hq⟩
 all_goals have HQ := hid hq1
 all_goals clear hq1
 all_goals go_enter Tryz.func148, Tryz.ntmps148
 all_goals go_wp2_with (first | (go_at_call 62; refine (refLetter_any _ h0 h1 _).mono ?_; rintro e w1 ⟨rfl, rfl⟩) | (go_at_call 63; refine (refDigit_any _ h0 h1 _).mono ?_; rintro e w1 ⟨rfl, rfl⟩) | (go_at_call 86; refine (refLower_any _ _ (by show 1 <= _; omega)).mono ?_; rintro e w1 ⟨t, rfl, ht, hb⟩; have hts : t.size <= 1 := by rw [<- len_data, ht.out]; simp [low]))
 all_goals go_ret2
 all_goals refine ⟨_, _, rfl, hid ?_, hid ?_, ?_⟩
 all_goals subst_vars
 all_goals first | (with_reducible exact Below.refl _ _) | (exact after (by go_grown) hb (by simp)) | skip
 all_goals (try simp only [beq_iff_eq, beq_eq_false_iff_ne, ne_eq] at *)
 all_goals (try (have hq95 : n = 95 := by omega))
 all_goals (have hq1 := HQ.out; rw [hu.out, Hl.out, <- htl.out]; first | (simp [*]; done) | (simp_all; done) | (rw [data_append, ht.out, <- htl.out]; simp [*, low]; done))
theorem refSty_any (p : Int) (wd : ByteArray) (n : Int) (h0 : 0 <= n) (h1 : n <= 255) (w : World) :
  Calls Tryz.prog 144 #[.int .i64 p, .string wd, .int .u8 n] w (RIntStr w (cStep p wd.data.toList (bOf n)).1 (cStep p wd.data.toList (bOf n)).2) := by
 have hu := hid (tStep_int p wd.data.toList n h0 h1)
 go_enter Tryz.func144, Tryz.ntmps144
 go_wp2_with (first | (go_at_call 148; refine (refPlain_any _ _ h0 h1 _).mono ?_; rintro e w1 ⟨r, t, rfl, hr, ht, hb⟩))
 all_goals go_ret2
 all_goals refine ⟨_, _, rfl, hid ?_, hid ?_, ?_⟩
 all_goals subst_vars
 all_goals first | (with_reducible exact Below.refl _ _) | (exact hb) | skip
 all_goals (try simp only [beq_iff_eq, beq_eq_false_iff_ne, ne_eq] at *)
 all_goals (rw [hu.out]; first | (simp [*]; done) | (simp_all; done) | (rw [hr.out]; simp [*]; done) | (rw [ht.out]; simp [*]; done) | (subst_vars; simp [wrap64]; done))
def PIS (n : Nat) (w : World) (e : Ending) (w' : World) : Prop := ∃ (r : Int) (t : ByteArray), e = .returned (.tuple #[.int .i64 r, .string t]) /\ t.size <= n /\ Below w.heap.size w w'
theorem url_any (p : Int) (wd : ByteArray) (n : Int) (m : Nat) (h0 : 0 <= n) (h1 : n <= 255) (hm : 16 <= m) (hm2 : m <= 1048576) (hw : wd.size <= m) (w : World) : Calls Tryz.prog 142 #[.int .i64 p, .string wd, .int .u8 n] w (PIS m w) := by
 have kc := fun W => conv_one (P := Tryz.prog) n W 62 9 5 Tryz.underlying62 Tryz.underlying5 Tryz.underlying9 h0 h1
 have HA := hid (fun t W => refAllowed_any t W)
 have HL := hid (fun W => refLower_any ⟨#[bOf n]⟩ W (by show 1 <= _; omega))
 go_enter Tryz.func142, Tryz.ntmps142
 go_wp2_with (first
  | (go_at_call 126; refine (HA.out _ _).mono ?_; rintro e w2 ⟨rfl, rfl⟩)
  | (go_at_call 86; refine (HL.out _).mono ?_; rintro e w3 ⟨x, rfl, hx, hb3⟩; have hx1 : x.size = 1 := (by rw [<- len_data, hx.out]; rfl); have hov : ¬ 9223372036854775807 < wd.size + x.size := (by omega); have hov2 : ¬ 9223372036854775807 < x.size := (by omega)))
 all_goals first
  | (go_ret2; exact ⟨_, _, rfl, Nat.zero_le _, Below.refl _ _⟩)
  | (go_ret2; exact ⟨_, _, rfl, hw, Below.refl _ _⟩)
  | (go_ret2; exact ⟨_, _, rfl, by simp only [ByteArray.size_append]; omega, after (by go_grown) hb3 (by simp)⟩)
  | (go_ret2; exact ⟨_, _, rfl, by rw [ByteArray.size_append]; show 0 + x.size <= m; omega, after (by go_grown) hb3 (by simp)⟩)
theorem keyword_any (s : ByteArray) (w : World) : Calls Tryz.prog 150 #[.string s] w (AB w) := by
 go_enter Tryz.func150, Tryz.ntmps150
 go_wp2
 go_loopw [4] (fun i wr => ∃ k : Nat, i = .int .i64 (k : Int) /\ k <= 12 /\ StrsAt wr w.heap.size 12 /\ Below w.heap.size w wr) (fun i _ => 12 - (intOf i).toNat)
 case atStart => exact ⟨0, rfl, Nat.zero_le _, StrsAt.of (Blk.new _ _ _) (by rfl) rfl, alloc_below _ _⟩
 obtain ⟨k, rfl, hk, hS, hb⟩ := hrel
 have HS := hid hS
 clear hS
 by_cases hlt : k < 12
 ·obtain ⟨t, hc⟩ := HS.out k hlt;have hli : (k : Int) < 12 := by omega
  go_wp2
  all_goals first
   | (go_ret; exact ⟨_, rfl, hb⟩)
   | (go_roundw
      case rel => exact ⟨k + 1, by go_num, by omega, HS.out, hb⟩
      simp [intOf]; omega)
 obtain rfl : k = 12 := by omega
 go_wp2
 go_ret
 exact ⟨_, rfl, hb⟩
theorem code_any (p : Int) (wd : ByteArray) (n : Int) (m : Nat) (h0 : 0 <= n) (h1 : n <= 255) (hm : 16 <= m) (hm2 : m <= 1048576) (hw : wd.size <= m) (w : World) : Calls Tryz.prog 147 #[.int .i64 p, .string wd, .int .u8 n] w (PIS m w) := by
 have kc := fun (m : Int) (h0 : 0 <= m) (h1 : m <= 255) W => conv_one (P := Tryz.prog) m W 62 9 5 Tryz.underlying62 Tryz.underlying5 Tryz.underlying9 h0 h1
 have HK := hid (fun W => keyword_any wd W)
 have HD := hid (fun W => refDigit_any n h0 h1 W)
 have HL := hid (fun W => refLetter_any n h0 h1 W)
 have HB := hid (fun W => refBlank_any n h0 h1 W)
 generalize isDigit (bOf n) = b1 at HD
 generalize isLetter (bOf n) = b2 at HL
 generalize isBlank (bOf n) = b3 at HB
 have hz : (⟨#[bOf n]⟩ : ByteArray).size = 1 := rfl
 have hov : ¬ 9223372036854775807 < wd.size + (⟨#[bOf n]⟩ : ByteArray).size := by omega
 have hov1 : ¬ 9223372036854775807 < wd.size + 1 := by omega
 go_enter Tryz.func147, Tryz.ntmps147
 go_wp2_with (first
  | (go_at_call 150; refine (HK.out _).mono ?_; rintro e w2 ⟨bk, rfl, hb2⟩)
  | (go_at_call 63; refine (HD.out _).mono ?_; rintro e w3 ⟨rfl, rfl⟩)
  | (go_at_call 62; refine (HL.out _).mono ?_; rintro e w3 ⟨rfl, rfl⟩)
  | (go_at_call 37; refine (HB.out _).mono ?_; rintro e w3 ⟨rfl, rfl⟩))
 all_goals first
  | (go_ret2; exact ⟨_, _, rfl, Nat.zero_le _, Below.refl _ _⟩)
  | (go_ret2; exact ⟨_, _, rfl, Nat.zero_le _, hb2⟩)
  | (go_ret2; exact ⟨_, _, rfl, hw, Below.refl _ _⟩)
  | (go_ret2; exact ⟨_, _, rfl, by simp only [ByteArray.size_append]; show wd.size + 1 <= m; omega, by go_grown⟩)
theorem script_any (p : Int) (wd : ByteArray) (n : Int) (m : Nat) (h0 : 0 <= n) (h1 : n <= 255) (hm : 16 <= m) (hm2 : m <= 1048576) (hw : wd.size <= m) (w : World) : Calls Tryz.prog 143 #[.int .i64 p, .string wd, .int .u8 n] w (PIS m w) := by
 have HC := hid (fun p n W h0 h1 => code_any p wd n m h0 h1 hm hm2 hw W)
 have HC0 := hid (fun n W h0 h1 => code_any 0 ⟨#[]⟩ n m h0 h1 hm hm2 (Nat.zero_le _) W)
 go_enter Tryz.func143, Tryz.ntmps143
 go_wp2_with (first
  | (go_at_call 147; (with_reducible refine (HC.out _ _ _ ?ca ?cb).mono ?_); (case ca => omega); (case cb => omega); rintro e w2 ⟨r, t, rfl, ht, hb2⟩)
  | (go_at_call 147; (with_reducible refine (HC0.out _ _ ?ca ?cb).mono ?_); (case ca => omega); (case cb => omega); rintro e w2 ⟨r, t, rfl, ht, hb2⟩))
 all_goals first
  | (go_ret2; exact ⟨_, _, rfl, Nat.zero_le _, Below.refl _ _⟩)
  | (go_ret2; exact ⟨_, _, rfl, ht, hb2⟩)
theorem cCode_len (wd : List UInt8) (c : UInt8) (m : Nat) (hm : 16 <= m) (hw : wd.length <= m) : (cCode wd c).2.length <= m := by
 unfold cCode
 (repeat' split) <;> (try simp) <;> omega
theorem cStep_len (p : Int) (wd : List UInt8) (c : UInt8) (m : Nat) (hm : 16 <= m) (hw : wd.length <= m) : (cStep p wd c).2.length <= m := by
 have h1 := cCode_len wd c m hm hw
 have h2 := cCode_len [] c m hm (Nat.zero_le _)
 unfold cStep cRemark
 (repeat' split) <;> first | assumption | exact Nat.zero_le _
theorem styS_any (p : Int) (wd : ByteArray) (n : Int) (m : Nat) (h0 : 0 <= n) (h1 : n <= 255) (hm : 16 <= m) (hw : wd.size <= m) (w : World) : Calls Tryz.prog 144 #[.int .i64 p, .string wd, .int .u8 n] w (PIS m w) :=
 (refSty_any p wd n h0 h1 w).mono fun e w' ⟨r, t, he, _, ht, hb⟩ => ⟨r, t, he, by rw [<- len_data, ht.out]; exact cStep_len _ _ _ _ hm (by rw [len_data]; exact hw), hb⟩
theorem feed14_any (k p : Int) (wd s : ByteArray) (m : Nat) (hm : 16 <= m) (hm2 : m <= 1048576) (hw : wd.size <= m) (hs : s.size <= 1099511627775) (w : World) : Calls Tryz.prog 137 #[.int .i64 k, .int .i64 p, .string wd, .string s] w (PIS m w) := by
 have H1 := hid (fun p wd n W h0 h1 hw => url_any p wd n m h0 h1 hm hm2 hw W)
 have H2 := hid (fun p wd n W h0 h1 hw => script_any p wd n m h0 h1 hm hm2 hw W)
 have H3 := hid (fun p wd n W h0 h1 hw => styS_any p wd n m h0 h1 hm hw W)
 obtain ⟨q1, e1⟩ := xE (k == 1)
 obtain ⟨q2, e2⟩ := xE (k == 2)
 go_enter Tryz.func137, Tryz.ntmps137
 go_wp2
 go_loopw [1, 2, 10] (fun a b i wr => ∃ (x : Int) (t : ByteArray) (j : Nat), a = .int .i64 x /\ b = .string t /\ i = .int .i64 (j : Int) /\ j <= s.size /\ t.size <= m /\ Below w.heap.size w wr) (fun _ _ i _ => s.size - (intOf i).toNat)
 case atStart => exact ⟨p, wd, 0, rfl, rfl, rfl, Nat.zero_le _, hw, Below.refl _ _⟩
 obtain ⟨x, t, j, rfl, rfl, rfl, hj, ht, hb⟩ := hrel
 by_cases hlt : j < s.size
 ·obtain ⟨n, hn, h0, h1⟩ := u8b s j hlt;cases q1
  ·cases q2
   ·go_wp2_with (go_at_call 144; refine (H3.out x t n _ h0 h1 ht).mono ?_; rintro e w2 ⟨r, u, rfl, hu, hb2⟩)
    go_roundw
    case rel => exact ⟨_, _, j + 1, rfl, rfl, by go_num, by omega, hu, hb.trans (hb2.mono hb.size)⟩
    simp [intOf]; omega
   go_wp2_with (go_at_call 143; refine (H2.out x t n _ h0 h1 ht).mono ?_; rintro e w2 ⟨r, u, rfl, hu, hb2⟩)
   go_roundw
   case rel => exact ⟨_, _, j + 1, rfl, rfl, by go_num, by omega, hu, hb.trans (hb2.mono hb.size)⟩
   simp [intOf]; omega
  go_wp2_with (go_at_call 142; refine (H1.out x t n _ h0 h1 ht).mono ?_; rintro e w2 ⟨r, u, rfl, hu, hb2⟩)
  go_roundw
  case rel => exact ⟨_, _, j + 1, rfl, rfl, by go_num, by omega, hu, hb.trans (hb2.mono hb.size)⟩
  simp [intOf]; omega
 obtain rfl : j = s.size := by omega
 go_wp2
 go_ret2
 exact ⟨_, _, rfl, ht, hb⟩
theorem number_any (s : ByteArray) (hex : Bool) (w : World) (h2 : s.size <= 7) (hd : s.data.toList.all isH = true) :
  Calls Tryz.prog 140 #[.string s, .int .i64 (baseN hex : Int)] w fun e w' => e = .returned (.int .i64 (valN (baseN hex) s.data.toList)) /\ w = w' := by
 have Hlen := hid (len_data s)
 have Hd := hid hd
 obtain ⟨b, hb⟩ := xE (baseN hex)
 have hb16 : b = 10 ∨ b = 16 := by rw [<- hb]; cases hex <;> simp [baseN]
 rw [hb]
 obtain ⟨z, hz⟩ : ∃ z : Int, (b : Int) = z := ⟨_, rfl⟩
 have hz16 : z = 10 ∨ z = 16 := by omega
 have Hz := hid hz
 rw [hz]
 clear hd hb hz
 go_enter Tryz.func140, Tryz.ntmps140
 go_wp2
 go_loopw [5, 6] (fun q i wr => ∃ k : Nat, ∃ v : Int, k <= s.size /\ i = .int .i64 k /\ q = .int .i64 v /\ Hid (v = valN b (s.data.toList.take k)) /\ 0 <= v /\ v < 536870912 /\ wr = w) (fun _ i _ => s.size - (intOf i).toNat)
 case atStart => exact ⟨0, 0, Nat.zero_le _, rfl, rfl, hid rfl, by omega, by omega, rfl⟩
 obtain ⟨k, v, hk, rfl, rfl, hv, hv0, hv1, rfl⟩ := hrel
 by_cases hlt : k < s.size
 ·have hkl : k < s.data.toList.length := by rw [Hlen.out]; exact hlt
  obtain ⟨c, hc⟩ := xE s.data.toList[k];have hH : isH c = true := List.all_eq_true.1 Hd.out c (by rw [<- hc]; exact List.getElem_mem _);have hex1 : (s.extract k (k + 1)).data.toList = [c] := by
   rw [data_extract, take_one _ k hkl, hc, List.drop_append_of_le_length (by rw [List.length_take]; omega), List.drop_of_length_le (by rw [List.length_take]; omega)]; rfl
  have HU := hid (fun w => refUnhex1_any (s.extract k (k + 1)) c w hex1 hH);have hdl := dval_lt c hH;obtain ⟨d, hdd⟩ : ∃ d : Int, (dval c : Int) = d := ⟨_, rfl⟩
  have Hdd := hid hdd;have hd0 : 0 <= d /\ d < 16 := by omega
  have Hst : Hid (((valN b (s.data.toList.take (k + 1)) : Nat) : Int) = v * z + d) := hid (by
   rw [take_one _ k hkl, valN_snoc, hc, hv.out, <- hdd, <- Hz.out]; push_cast; rfl)
  have HvB : Hid (k + 1 <= 7 -> v * z + d < 536870912) := hid (fun _ => by
   have hall : ∀ c ∈ s.data.toList.take (k + 1), dval c < 16 := fun c hc => dval_lt c (List.all_eq_true.1 Hd.out c (List.mem_of_mem_take hc))
   have hl : (s.data.toList.take (k + 1)).length = k + 1 := by rw [List.length_take, Hlen.out]; omega
   have := valN_lt b (by omega) (k + 1) _ hl hall;have h7 : 16 ^ (k + 1) <= 16 ^ 7 := Nat.pow_le_pow_right (by omega) (by omega);have := Hst.out;omega)
  clear hc hH hex1 hdl hdd;rcases hz16 with rfl | rfl
  all_goals
   go_wp2_with fail
   refine (HU.out _).mono ?_;rintro e w1 ⟨rfl, rfl⟩;rw [Hdd.out];go_wp2
   go_roundw
   case rel => exact ⟨k + 1, _, by omega, by go_num, rfl, hid Hst.out.symm, by omega, HvB.out (by omega), by first | trivial | rfl⟩
   simp [intOf]; omega
 obtain rfl : k = s.size := by omega
 have hv' := hv.out
 rw [take_all] at hv'
 subst hv'
 go_wp2
 go_ret
 exact ⟨rfl, rfl⟩
def nameAt (k : Nat) : List UInt8 := match k with | 0 => [38, 97, 109, 112, 59] | 1 => [38, 108, 116, 59] | 2 => [38, 103, 116, 59] | 3 => [38, 113, 117, 111, 116, 59] | _ => [38, 97, 112, 111, 115, 59]
theorem namedL_none (s : List UInt8) (h : ∀ k, k < 5 -> begL (nameAt k) s = false) : namedL s = none := by
 have h0 := h 0 (by omega)
 have h1 := h 1 (by omega)
 have h2 := h 2 (by omega)
 have h3 := h 3 (by omega)
 have h4 := h 4 (by omega)
 unfold begL nameAt at h0 h1 h2 h3 h4
 unfold namedL
 rw [Option.map_eq_none_iff, List.find?_eq_none]
 intro p hp
 simp only [names, List.mem_cons, List.not_mem_nil, or_false] at hp
 rcases hp with rfl | rfl | rfl | rfl | rfl <;> simp only [List.cons_append, List.nil_append] <;> simp_all
theorem beg_one (s : List UInt8) (k : Nat) (p : List UInt8 × UInt8) (hp : p ∈ names) (e : nameAt k = 38 :: (p.1 ++ [59])) (h : begL (nameAt k) s = true) : oneR s = ([p.2], p.1.length + 2) := by
 unfold begL at h
 rw [List.isPrefixOf_iff_prefix] at h
 obtain ⟨r, hr⟩ := h
 rw [<- hr, e, mtch_one _ _ r (.inl ⟨p, hp, rfl, rfl⟩)]
 simp
theorem numL_other (s : List UInt8) (h : begL [38, 35] s = false) : numL s = ([], 0) := by
 unfold numL
 split
 ·simp [begL, List.isPrefixOf] at h
 rfl
theorem numT_run (l : List UInt8) (a : Nat) (hex : Bool) : numT hex (l.drop a) = if 1 <= runL l a hex /\ runL l a hex <= 7 /\ l[a + runL l a hex]? = some 59 then some (chrOf (valN (baseN hex) ((l.drop a).take (runL l a hex))), runL l a hex + 1) else none := by
 have hs := (takeWhile_split (digP hex) (l.drop a)).1
 have e : (l.drop a).take (runL l a hex) = (l.drop a).takeWhile (digP hex) := by
  conv => lhs; rw [hs]
  unfold runL;rw [List.take_left]
 unfold numT
 rw [e, List.getElem?_drop]
 rfl
theorem run_digits (l : List UInt8) (a : Nat) (hex : Bool) : ((l.drop a).take (runL l a hex)).all (digP hex) = true := by
 have hs := takeWhile_split (digP hex) (l.drop a)
 have e : (l.drop a).take (runL l a hex) = (l.drop a).takeWhile (digP hex) := by
  conv => lhs; rw [hs.1]
  unfold runL;rw [List.take_left]
 rw [e]; exact hs.2
theorem run_le (l : List UInt8) (a : Nat) (hex : Bool) : runL l a hex <= l.length - a := by
 have hs := (takeWhile_split (digP hex) (l.drop a)).1
 have := congrArg List.length hs
 rw [List.length_append, List.length_drop] at this
 unfold runL; omega
theorem digP_isH (hex : Bool) (c : UInt8) (h : digP hex c = true) : isH c = true := by
 unfold digP at h
 cases hex with
 | true => exact h
 | false => unfold isH; rw [show isD c = true from h]; rfl
theorem refOne_any (s : ByteArray) (w : World) (hs : s.size <= 1099511627776) :
  Calls Tryz.prog 134 #[.string s] w (RStrInt w (oneR s.data.toList).1 ((oneR s.data.toList).2 : Int)) := by
 have Hlen := hid (len_data s)
 have HBE := hid (fun (p : ByteArray) (hp : p.size <= 1099511627776) (w : World) => begins_any p s w hp hs)
 go_enter Tryz.func134, Tryz.ntmps134
 go_wp2
 go_loopw [5] (fun i wr => ∃ k : Nat, k <= 5 /\ i = .int .i64 k /\ Hid (∀ j, j < k -> begL (nameAt j) s.data.toList = false) /\ wr = w.alloc (.cells #[.string ⟨#[38, 97, 109, 112, 59]⟩, .string ⟨#[38, 108, 116, 59]⟩, .string ⟨#[38, 103, 116, 59]⟩, .string ⟨#[38, 113, 117, 111, 116, 59]⟩, .string ⟨#[38, 97, 112, 111, 115, 59]⟩] 9)) (fun i _ => 5 - (intOf i).toNat)
 case atStart => exact ⟨0, by omega, rfl, hid (fun j h => absurd h (by omega)), rfl⟩
 obtain ⟨k, hk, rfl, hr, rfl⟩ := hrel
 rcases (show k = 0 ∨ k = 1 ∨ k = 2 ∨ k = 3 ∨ k = 4 ∨ k = 5 by omega) with rfl | rfl | rfl | rfl | rfl | rfl
 ·go_wp2_with fail
  refine (HBE.out _ (by simp [ByteArray.size]) _).mono ?_;rintro e w1 ⟨rfl, rfl⟩;obtain ⟨q, hq⟩ := xE (begL (⟨#[38, 97, 109, 112, 59]⟩ : ByteArray).data.toList s.data.toList);rw [hq];have Hq := hid hq;clear hq;cases q with
  | true =>
   have HO := hid (beg_one s.data.toList 0 ([97, 109, 112], 38) (by simp [names]) rfl Hq.out);go_wp2_with (go_quiet (fail))
   go_ret2;exact ⟨_, _, rfl, hid (by rw [HO.out]; rfl), hid (by rw [HO.out]; rfl), below_drewN (by go_grown) _⟩
  | false =>
   go_wp2
   go_roundw
   case rel =>
    refine ⟨0 + 1, by omega, by go_num, hid (fun j h => ?_), by first | trivial | rfl⟩;rcases Nat.lt_or_ge j 0 with hj | hj
    ·exact hr.out j hj
    obtain rfl : j = 0 := by omega
    exact Hq.out
   simp [intOf]
 ·go_wp2_with fail
  refine (HBE.out _ (by simp [ByteArray.size]) _).mono ?_;rintro e w1 ⟨rfl, rfl⟩;obtain ⟨q, hq⟩ := xE (begL (⟨#[38, 108, 116, 59]⟩ : ByteArray).data.toList s.data.toList);rw [hq];have Hq := hid hq;clear hq;cases q with
  | true =>
   have HO := hid (beg_one s.data.toList 1 ([108, 116], 60) (by simp [names]) rfl Hq.out);go_wp2_with (go_quiet (fail))
   go_ret2;exact ⟨_, _, rfl, hid (by rw [HO.out]; rfl), hid (by rw [HO.out]; rfl), below_drewN (by go_grown) _⟩
  | false =>
   go_wp2
   go_roundw
   case rel =>
    refine ⟨1 + 1, by omega, by go_num, hid (fun j h => ?_), by first | trivial | rfl⟩;rcases Nat.lt_or_ge j 1 with hj | hj
    ·exact hr.out j hj
    obtain rfl : j = 1 := by omega
    exact Hq.out
   simp [intOf]
 ·go_wp2_with fail
  refine (HBE.out _ (by simp [ByteArray.size]) _).mono ?_;rintro e w1 ⟨rfl, rfl⟩;obtain ⟨q, hq⟩ := xE (begL (⟨#[38, 103, 116, 59]⟩ : ByteArray).data.toList s.data.toList);rw [hq];have Hq := hid hq;clear hq;cases q with
  | true =>
   have HO := hid (beg_one s.data.toList 2 ([103, 116], 62) (by simp [names]) rfl Hq.out);go_wp2_with (go_quiet (fail))
   go_ret2;exact ⟨_, _, rfl, hid (by rw [HO.out]; rfl), hid (by rw [HO.out]; rfl), below_drewN (by go_grown) _⟩
  | false =>
   go_wp2
   go_roundw
   case rel =>
    refine ⟨2 + 1, by omega, by go_num, hid (fun j h => ?_), by first | trivial | rfl⟩;rcases Nat.lt_or_ge j 2 with hj | hj
    ·exact hr.out j hj
    obtain rfl : j = 2 := by omega
    exact Hq.out
   simp [intOf]
 ·go_wp2_with fail
  refine (HBE.out _ (by simp [ByteArray.size]) _).mono ?_;rintro e w1 ⟨rfl, rfl⟩;obtain ⟨q, hq⟩ := xE (begL (⟨#[38, 113, 117, 111, 116, 59]⟩ : ByteArray).data.toList s.data.toList);rw [hq];have Hq := hid hq;clear hq;cases q with
  | true =>
   have HO := hid (beg_one s.data.toList 3 ([113, 117, 111, 116], 34) (by simp [names]) rfl Hq.out);go_wp2_with (go_quiet (fail))
   go_ret2;exact ⟨_, _, rfl, hid (by rw [HO.out]; rfl), hid (by rw [HO.out]; rfl), below_drewN (by go_grown) _⟩
  | false =>
   go_wp2
   go_roundw
   case rel =>
    refine ⟨3 + 1, by omega, by go_num, hid (fun j h => ?_), by first | trivial | rfl⟩;rcases Nat.lt_or_ge j 3 with hj | hj
    ·exact hr.out j hj
    obtain rfl : j = 3 := by omega
    exact Hq.out
   simp [intOf]
 ·go_wp2_with fail
  refine (HBE.out _ (by simp [ByteArray.size]) _).mono ?_;rintro e w1 ⟨rfl, rfl⟩;obtain ⟨q, hq⟩ := xE (begL (⟨#[38, 97, 112, 111, 115, 59]⟩ : ByteArray).data.toList s.data.toList);rw [hq];have Hq := hid hq;clear hq;cases q with
  | true =>
   have HO := hid (beg_one s.data.toList 4 ([97, 112, 111, 115], 39) (by simp [names]) rfl Hq.out);go_wp2_with (go_quiet (fail))
   go_ret2;exact ⟨_, _, rfl, hid (by rw [HO.out]; rfl), hid (by rw [HO.out]; rfl), below_drewN (by go_grown) _⟩
  | false =>
   go_wp2
   go_roundw
   case rel =>
    refine ⟨4 + 1, by omega, by go_num, hid (fun j h => ?_), by first | trivial | rfl⟩;rcases Nat.lt_or_ge j 4 with hj | hj
    ·exact hr.out j hj
    obtain rfl : j = 4 := by omega
    exact Hq.out
   simp [intOf]
 have HN := hid (namedL_none s.data.toList hr.out)
 have HO1 : Hid (oneR s.data.toList = numL s.data.toList) := hid (by unfold oneR; rw [HN.out])
 have hbw : Below w.heap.size w (w.alloc (.cells #[.string ⟨#[38, 97, 109, 112, 59]⟩, .string ⟨#[38, 108, 116, 59]⟩, .string ⟨#[38, 103, 116, 59]⟩, .string ⟨#[38, 113, 117, 111, 116, 59]⟩, .string ⟨#[38, 97, 112, 111, 115, 59]⟩] 9)) := by go_grown
 obtain ⟨W, hW⟩ := xE (w.alloc (.cells #[.string ⟨#[38, 97, 109, 112, 59]⟩, .string ⟨#[38, 108, 116, 59]⟩, .string ⟨#[38, 103, 116, 59]⟩, .string ⟨#[38, 113, 117, 111, 116, 59]⟩, .string ⟨#[38, 97, 112, 111, 115, 59]⟩] 9))
 rw [hW] at hbw ⊢
 clear hW
 go_wp2_with fail
 refine (HBE.out _ (by simp [ByteArray.size]) _).mono ?_
 rintro e w1 ⟨rfl, rfl⟩
 obtain ⟨q, hq⟩ := xE (begL (⟨#[38, 35]⟩ : ByteArray).data.toList s.data.toList)
 rw [hq]
 have Hq := hid hq
 clear hq
 cases q with
 | false =>
  have HO := hid (numL_other s.data.toList Hq.out);go_wp2
  go_ret2;exact ⟨_, _, rfl, hid (by rw [HO1.out, HO.out]), hid (by rw [HO1.out, HO.out]; rfl), hbw⟩
 | true =>
  obtain ⟨t, ht⟩ : ∃ t, s.data.toList = 38 :: 35 :: t := by
   have := Hq.out;unfold begL at this;rw [List.isPrefixOf_iff_prefix] at this;obtain ⟨r, hr⟩ := this;exact ⟨r, hr.symm⟩
  have hsz2 : s.size = t.length + 2 := by rw [<- Hlen.out, ht]; simp
  have Ht := hid ht;cases t with
  | nil =>
   have hR : runL s.data.toList 2 false = 0 := by rw [ht]; rfl
   have hrun := fun w => run_any s 2 false w hs (by rw [hsz2]; simp)
   rw [hR] at hrun;have Hrun := hid hrun;have hsz3 : (s.size : Int) = 2 := by rw [hsz2]; rfl
   clear hrun hR ht hsz2;go_wp2_with (go_at_call 139; refine (Hrun.out _).mono ?_; rintro e w1 ⟨rfl, rfl⟩)
   go_ret2;exact ⟨_, _, rfl, hid (by rw [HO1.out, Ht.out]; rfl), hid (by rw [HO1.out, Ht.out]; rfl), hbw⟩
  | cons c u =>
   have hsz3 : 2 < s.size := by rw [hsz2]; simp
   clear hsz2;have hsc : s[2]'hsz3 = c := by rw [<- data_get s 2 hsz3 (by rw [Hlen.out]; exact hsz3)]; simp [ht]
   obtain ⟨m, hm⟩ : ∃ m : Int, ((s[2]'hsz3).toNat : Int) = m := ⟨_, rfl⟩
   have hm0 : 0 <= m /\ m <= 255 := by have := (s[2]'hsz3).toNat_lt; omega
   have hX : isX c = ((m == 120) || (m == 88)) := by
    have := byte_all (p := fun c n => isX c = ((n == 120) || (n == 88))) (by decide +kernel) m hm0.1 hm0.2;rw [<- hm, bOf_cast, hm, hsc] at this; exact this
   cases hx : isX c with
   | true =>
    rw [hx] at hX;have HX := hid hx;have hmx : m = 120 ∨ m = 88 := by
     have := hX.symm;rw [Bool.or_eq_true, beq_iff_eq, beq_iff_eq] at this; exact this
    clear hX hsc ht hx;rcases hmx with rfl | rfl
    ·have hdrop : s.data.toList.drop 3 = u := by rw [Ht.out]; rfl
     have hnum : oneR s.data.toList = (match numT true (s.data.toList.drop 3) with | some (x, k) => (x, k + 3) | none => ([], 0)) := by
      rw [HO1.out, hdrop, Ht.out]; simp only [numL]; rw [HX.out]; rfl
     have HNum := hid hnum;have HT := hid (numT_run s.data.toList 3 true);have Hdig := hid (run_digits s.data.toList 3 true);have hrl := run_le s.data.toList 3 true;rw [Hlen.out] at hrl;have hrun := fun w => run_any s 3 true w hs (by omega)
     obtain ⟨n, hn⟩ := xE (runL s.data.toList 3 true);rw [hn] at hrl HT Hdig;simp only [hn] at hrun;have Hrun := hid hrun;clear hn hrun hdrop hnum;by_cases hn0 : n = 0
     ·subst hn0;have HO : Hid (oneR s.data.toList = ([], 0)) := hid (by rw [HNum.out, HT.out, if_neg (by omega)]);go_wp2_with (go_at_call 139; refine (Hrun.out _).mono ?_; rintro e w1 ⟨rfl, rfl⟩)
      go_ret2;exact ⟨_, _, rfl, hid (by rw [HO.out]), hid (by rw [HO.out]; rfl), hbw⟩
     by_cases hn7 : 7 < n
     ·have HO : Hid (oneR s.data.toList = ([], 0)) := hid (by rw [HNum.out, HT.out, if_neg (by omega)]);go_wp2_with (go_at_call 139; refine (Hrun.out _).mono ?_; rintro e w1 ⟨rfl, rfl⟩)
      go_ret2;exact ⟨_, _, rfl, hid (by rw [HO.out]), hid (by rw [HO.out]; rfl), hbw⟩
     by_cases hend : s.size <= 3 + n
     ·have HO : Hid (oneR s.data.toList = ([], 0)) := hid (by
       rw [HNum.out, HT.out, if_neg];rintro ⟨_, _, h⟩;rw [List.getElem?_eq_none (by rw [Hlen.out]; exact hend)] at h; cases h)
      go_wp2_with (go_at_call 139; refine (Hrun.out _).mono ?_; rintro e w1 ⟨rfl, rfl⟩)
      go_ret2;exact ⟨_, _, rfl, hid (by rw [HO.out]), hid (by rw [HO.out]; rfl), hbw⟩
     have hlt : 3 + n < s.size := by omega
     have hdl : 3 + n < s.data.toList.length := by rw [Hlen.out]; exact hlt
     obtain ⟨y, hy⟩ : ∃ y : Int, ((s[3 + n]'hlt).toNat : Int) = y := ⟨_, rfl⟩
     have hget : Hid (s.data.toList[3 + n]? = some (s[3 + n]'hlt)) := hid (by rw [List.getElem?_eq_getElem hdl, data_get s (3 + n) hlt hdl]);by_cases hy59 : y = 59
     ·subst hy59;have hg2 : s.data.toList[3 + n]? = some 59 := by
       rw [hget.out]; congr 1;exact UInt8.toNat_inj.1 (by have : (59 : UInt8).toNat = 59 := rfl; omega)
      have HO : Hid (oneR s.data.toList = (chrOf (valN (baseN true) ((s.data.toList.drop 3).take n)), n + 1 + 3)) := hid (by
       rw [HNum.out, HT.out, if_pos ⟨by omega, by omega, hg2⟩])
      have hxd : (s.extract 3 (3 + n)).data.toList = (s.data.toList.drop 3).take n := by rw [data_extract, List.drop_take]; congr 1; omega
      have hxs : (s.extract 3 (3 + n)).size = n := by rw [ByteArray.size_extract]; omega
      have hall : ∀ c ∈ (s.data.toList.drop 3).take n, isH c = true := fun c hc => digP_isH true c (List.all_eq_true.1 Hdig.out c hc)
      have hnb := fun w => number_any (s.extract 3 (3 + n)) true w (by omega) (by rw [hxd, List.all_eq_true]; exact hall)
      obtain ⟨v, hv⟩ := xE (valN (baseN true) ((s.data.toList.drop 3).take n));rw [hxd, hv] at hnb;have hvl : v < 536870912 := by
       have hl : ((s.data.toList.drop 3).take n).length = n := by rw [List.length_take, List.length_drop, Hlen.out]; omega
       have := valN_lt (baseN true) (by decide) n _ hl (fun c hc => dval_lt c (hall c hc));have h7 : 16 ^ n <= 16 ^ 7 := Nat.pow_le_pow_right (by omega) (by omega);omega
      rw [hv] at HO;obtain ⟨z, hz⟩ : ∃ z : Int, (v : Int) = z := ⟨_, rfl⟩
      have hz0 : 0 <= z /\ z < 536870912 := by omega
      have Hz := hid hz;rw [hz] at hnb;have Hnb := hid hnb;clear hnb hv hvl hz hxd hxs hall hg2;go_wp2_with (first | (go_at_call 139; refine (Hrun.out _).mono ?_; rintro e w1 ⟨rfl, rfl⟩) | (go_at_call 140; refine (Hnb.out _).mono ?_; rintro e w1 ⟨rfl, rfl⟩))
      refine (refEncode_any z (by omega) (by omega) _).mono ?_;rintro e w2 ⟨t3, r3, rfl, ht3, hr3, hb3⟩;have hbb := after hbw hb3 hbw.size;have HO2 : Hid ((((oneR s.data.toList).2 : Nat) : Int) = 3 + n + 1) := hid (by rw [HO.out]; show ((n + 1 + 3 : Nat) : Int) = _; omega);cases hok : encOk z with
      | false =>
       have hcb := chrOf_bad v (by rw [Hz.out]; exact hok);rw [Hz.out] at hcb;obtain rfl : r3 = 4 := by rw [hr3.out]; exact hcb.2
       have Hcb := hid hcb;clear hcb hok;go_wp2_with fail
       refine (refEncode_any 65533 (by omega) (by omega) _).mono ?_;rintro e w3 ⟨t4, r4, rfl, ht4, hr4, hb4⟩;go_wp2
       go_ret2;exact ⟨_, _, rfl, hid (by rw [HO.out, ht4.out]; exact Hcb.out.1.symm), hid (by rw [HO2.out]), after hbb hb4 hbb.size⟩
      | true =>
       by_cases hz1 : z = 0
       ·subst hz1;have hn0 : v = 0 := by have := Hz.out; omega
        obtain rfl : r3 = 0 := by rw [hr3.out]; rfl
        have Hcb : Hid (chrOf v = [239, 191, 189]) := hid (by rw [hn0]; rfl);clear hok;go_wp2_with fail
        refine (refEncode_any 65533 (by omega) (by omega) _).mono ?_;rintro e w3 ⟨t4, r4, rfl, ht4, hr4, hb4⟩;go_wp2
        go_ret2;exact ⟨_, _, rfl, hid (by rw [HO.out, ht4.out]; exact Hcb.out.symm), hid (by rw [HO2.out]), after hbb hb4 hbb.size⟩
       have hcb := chrOf_ok v (by rw [Hz.out]; exact hok) (by have := Hz.out; omega);rw [Hz.out] at hcb;obtain rfl : r3 = 0 := by rw [hr3.out]; exact hcb.2
       have Hcb := hid hcb;clear hcb hok;go_wp2
       go_ret2;exact ⟨_, _, rfl, hid (by rw [HO.out, ht3.out]; exact Hcb.out.1.symm), hid (by rw [HO2.out]), hbb⟩
     have HO : Hid (oneR s.data.toList = ([], 0)) := hid (by
      rw [HNum.out, HT.out, if_neg];rintro ⟨_, _, h⟩;rw [hget.out] at h;injection h with h
      rw [h] at hy;exact hy59 hy.symm)
     have hyne : (y == 59) = false := beq_eq_false_iff_ne.2 hy59;have hyne2 : (y != 59) = true := bne_iff_ne.2 hy59;go_wp2_with (go_at_call 139; refine (Hrun.out _).mono ?_; rintro e w1 ⟨rfl, rfl⟩)
     go_ret2;exact ⟨_, _, rfl, hid (by rw [HO.out]), hid (by rw [HO.out]; rfl), hbw⟩
    have hdrop : s.data.toList.drop 3 = u := by rw [Ht.out]; rfl
    have hnum : oneR s.data.toList = (match numT true (s.data.toList.drop 3) with | some (x, k) => (x, k + 3) | none => ([], 0)) := by
     rw [HO1.out, hdrop, Ht.out]; simp only [numL]; rw [HX.out]; rfl
    have HNum := hid hnum;have HT := hid (numT_run s.data.toList 3 true);have Hdig := hid (run_digits s.data.toList 3 true);have hrl := run_le s.data.toList 3 true;rw [Hlen.out] at hrl;have hrun := fun w => run_any s 3 true w hs (by omega)
    obtain ⟨n, hn⟩ := xE (runL s.data.toList 3 true);rw [hn] at hrl HT Hdig;simp only [hn] at hrun;have Hrun := hid hrun;clear hn hrun hdrop hnum;by_cases hn0 : n = 0
    ·subst hn0;have HO : Hid (oneR s.data.toList = ([], 0)) := hid (by rw [HNum.out, HT.out, if_neg (by omega)]);go_wp2_with (go_at_call 139; refine (Hrun.out _).mono ?_; rintro e w1 ⟨rfl, rfl⟩)
     go_ret2;exact ⟨_, _, rfl, hid (by rw [HO.out]), hid (by rw [HO.out]; rfl), hbw⟩
    by_cases hn7 : 7 < n
    ·have HO : Hid (oneR s.data.toList = ([], 0)) := hid (by rw [HNum.out, HT.out, if_neg (by omega)]);go_wp2_with (go_at_call 139; refine (Hrun.out _).mono ?_; rintro e w1 ⟨rfl, rfl⟩)
     go_ret2;exact ⟨_, _, rfl, hid (by rw [HO.out]), hid (by rw [HO.out]; rfl), hbw⟩
    by_cases hend : s.size <= 3 + n
    ·have HO : Hid (oneR s.data.toList = ([], 0)) := hid (by
      rw [HNum.out, HT.out, if_neg];rintro ⟨_, _, h⟩;rw [List.getElem?_eq_none (by rw [Hlen.out]; exact hend)] at h; cases h)
     go_wp2_with (go_at_call 139; refine (Hrun.out _).mono ?_; rintro e w1 ⟨rfl, rfl⟩)
     go_ret2;exact ⟨_, _, rfl, hid (by rw [HO.out]), hid (by rw [HO.out]; rfl), hbw⟩
    have hlt : 3 + n < s.size := by omega
    have hdl : 3 + n < s.data.toList.length := by rw [Hlen.out]; exact hlt
    obtain ⟨y, hy⟩ : ∃ y : Int, ((s[3 + n]'hlt).toNat : Int) = y := ⟨_, rfl⟩
    have hget : Hid (s.data.toList[3 + n]? = some (s[3 + n]'hlt)) := hid (by rw [List.getElem?_eq_getElem hdl, data_get s (3 + n) hlt hdl]);by_cases hy59 : y = 59
    ·subst hy59;have hg2 : s.data.toList[3 + n]? = some 59 := by
      rw [hget.out]; congr 1;exact UInt8.toNat_inj.1 (by have : (59 : UInt8).toNat = 59 := rfl; omega)
     have HO : Hid (oneR s.data.toList = (chrOf (valN (baseN true) ((s.data.toList.drop 3).take n)), n + 1 + 3)) := hid (by
      rw [HNum.out, HT.out, if_pos ⟨by omega, by omega, hg2⟩])
     have hxd : (s.extract 3 (3 + n)).data.toList = (s.data.toList.drop 3).take n := by rw [data_extract, List.drop_take]; congr 1; omega
     have hxs : (s.extract 3 (3 + n)).size = n := by rw [ByteArray.size_extract]; omega
     have hall : ∀ c ∈ (s.data.toList.drop 3).take n, isH c = true := fun c hc => digP_isH true c (List.all_eq_true.1 Hdig.out c hc)
     have hnb := fun w => number_any (s.extract 3 (3 + n)) true w (by omega) (by rw [hxd, List.all_eq_true]; exact hall)
     obtain ⟨v, hv⟩ := xE (valN (baseN true) ((s.data.toList.drop 3).take n));rw [hxd, hv] at hnb;have hvl : v < 536870912 := by
      have hl : ((s.data.toList.drop 3).take n).length = n := by rw [List.length_take, List.length_drop, Hlen.out]; omega
      have := valN_lt (baseN true) (by decide) n _ hl (fun c hc => dval_lt c (hall c hc));have h7 : 16 ^ n <= 16 ^ 7 := Nat.pow_le_pow_right (by omega) (by omega);omega
     rw [hv] at HO;obtain ⟨z, hz⟩ : ∃ z : Int, (v : Int) = z := ⟨_, rfl⟩
     have hz0 : 0 <= z /\ z < 536870912 := by omega
     have Hz := hid hz;rw [hz] at hnb;have Hnb := hid hnb;clear hnb hv hvl hz hxd hxs hall hg2;go_wp2_with (first | (go_at_call 139; refine (Hrun.out _).mono ?_; rintro e w1 ⟨rfl, rfl⟩) | (go_at_call 140; refine (Hnb.out _).mono ?_; rintro e w1 ⟨rfl, rfl⟩))
     refine (refEncode_any z (by omega) (by omega) _).mono ?_;rintro e w2 ⟨t3, r3, rfl, ht3, hr3, hb3⟩;have hbb := after hbw hb3 hbw.size;have HO2 : Hid ((((oneR s.data.toList).2 : Nat) : Int) = 3 + n + 1) := hid (by rw [HO.out]; show ((n + 1 + 3 : Nat) : Int) = _; omega);cases hok : encOk z with
     | false =>
      have hcb := chrOf_bad v (by rw [Hz.out]; exact hok);rw [Hz.out] at hcb;obtain rfl : r3 = 4 := by rw [hr3.out]; exact hcb.2
      have Hcb := hid hcb;clear hcb hok;go_wp2_with fail
      refine (refEncode_any 65533 (by omega) (by omega) _).mono ?_;rintro e w3 ⟨t4, r4, rfl, ht4, hr4, hb4⟩;go_wp2
      go_ret2;exact ⟨_, _, rfl, hid (by rw [HO.out, ht4.out]; exact Hcb.out.1.symm), hid (by rw [HO2.out]), after hbb hb4 hbb.size⟩
     | true =>
      by_cases hz1 : z = 0
      ·subst hz1;have hn0 : v = 0 := by have := Hz.out; omega
       obtain rfl : r3 = 0 := by rw [hr3.out]; rfl
       have Hcb : Hid (chrOf v = [239, 191, 189]) := hid (by rw [hn0]; rfl);clear hok;go_wp2_with fail
       refine (refEncode_any 65533 (by omega) (by omega) _).mono ?_;rintro e w3 ⟨t4, r4, rfl, ht4, hr4, hb4⟩;go_wp2
       go_ret2;exact ⟨_, _, rfl, hid (by rw [HO.out, ht4.out]; exact Hcb.out.symm), hid (by rw [HO2.out]), after hbb hb4 hbb.size⟩
      have hcb := chrOf_ok v (by rw [Hz.out]; exact hok) (by have := Hz.out; omega);rw [Hz.out] at hcb;obtain rfl : r3 = 0 := by rw [hr3.out]; exact hcb.2
      have Hcb := hid hcb;clear hcb hok;go_wp2
      go_ret2;exact ⟨_, _, rfl, hid (by rw [HO.out, ht3.out]; exact Hcb.out.1.symm), hid (by rw [HO2.out]), hbb⟩
    have HO : Hid (oneR s.data.toList = ([], 0)) := hid (by
     rw [HNum.out, HT.out, if_neg];rintro ⟨_, _, h⟩;rw [hget.out] at h;injection h with h
     rw [h] at hy;exact hy59 hy.symm)
    have hyne : (y == 59) = false := beq_eq_false_iff_ne.2 hy59;have hyne2 : (y != 59) = true := bne_iff_ne.2 hy59;go_wp2_with (go_at_call 139; refine (Hrun.out _).mono ?_; rintro e w1 ⟨rfl, rfl⟩)
    go_ret2;exact ⟨_, _, rfl, hid (by rw [HO.out]), hid (by rw [HO.out]; rfl), hbw⟩
   | false =>
    rw [hx] at hX;have HX := hid hx;have hm1 : (m == 120) = false /\ (m == 88) = false := by
     have := hX.symm;rw [Bool.or_eq_false_iff] at this; exact this
    obtain ⟨hm1, hm2⟩ := hm1;clear hX hsc ht hx;have hdrop : s.data.toList.drop 2 = c :: u := by rw [Ht.out]; rfl
    have hnum : oneR s.data.toList = (match numT false (s.data.toList.drop 2) with | some (x, k) => (x, k + 2) | none => ([], 0)) := by
     rw [HO1.out, hdrop, Ht.out]; simp only [numL]; rw [HX.out]; rfl
    have HNum := hid hnum;have HT := hid (numT_run s.data.toList 2 false);have Hdig := hid (run_digits s.data.toList 2 false);have hrl := run_le s.data.toList 2 false;rw [Hlen.out] at hrl;have hrun := fun w => run_any s 2 false w hs (by omega)
    obtain ⟨n, hn⟩ := xE (runL s.data.toList 2 false);rw [hn] at hrl HT Hdig;simp only [hn] at hrun;have Hrun := hid hrun;clear hn hrun hdrop hnum;by_cases hn0 : n = 0
    ·subst hn0;have HO : Hid (oneR s.data.toList = ([], 0)) := hid (by rw [HNum.out, HT.out, if_neg (by omega)]);go_wp2_with (go_at_call 139; refine (Hrun.out _).mono ?_; rintro e w1 ⟨rfl, rfl⟩)
     go_ret2;exact ⟨_, _, rfl, hid (by rw [HO.out]), hid (by rw [HO.out]; rfl), hbw⟩
    by_cases hn7 : 7 < n
    ·have HO : Hid (oneR s.data.toList = ([], 0)) := hid (by rw [HNum.out, HT.out, if_neg (by omega)]);go_wp2_with (go_at_call 139; refine (Hrun.out _).mono ?_; rintro e w1 ⟨rfl, rfl⟩)
     go_ret2;exact ⟨_, _, rfl, hid (by rw [HO.out]), hid (by rw [HO.out]; rfl), hbw⟩
    by_cases hend : s.size <= 2 + n
    ·have HO : Hid (oneR s.data.toList = ([], 0)) := hid (by
      rw [HNum.out, HT.out, if_neg];rintro ⟨_, _, h⟩;rw [List.getElem?_eq_none (by rw [Hlen.out]; exact hend)] at h; cases h)
     go_wp2_with (go_at_call 139; refine (Hrun.out _).mono ?_; rintro e w1 ⟨rfl, rfl⟩)
     go_ret2;exact ⟨_, _, rfl, hid (by rw [HO.out]), hid (by rw [HO.out]; rfl), hbw⟩
    have hlt : 2 + n < s.size := by omega
    have hdl : 2 + n < s.data.toList.length := by rw [Hlen.out]; exact hlt
    obtain ⟨y, hy⟩ : ∃ y : Int, ((s[2 + n]'hlt).toNat : Int) = y := ⟨_, rfl⟩
    have hget : Hid (s.data.toList[2 + n]? = some (s[2 + n]'hlt)) := hid (by rw [List.getElem?_eq_getElem hdl, data_get s (2 + n) hlt hdl]);by_cases hy59 : y = 59
    ·subst hy59;have hg2 : s.data.toList[2 + n]? = some 59 := by
      rw [hget.out]; congr 1;exact UInt8.toNat_inj.1 (by have : (59 : UInt8).toNat = 59 := rfl; omega)
     have HO : Hid (oneR s.data.toList = (chrOf (valN (baseN false) ((s.data.toList.drop 2).take n)), n + 1 + 2)) := hid (by
      rw [HNum.out, HT.out, if_pos ⟨by omega, by omega, hg2⟩])
     have hxd : (s.extract 2 (2 + n)).data.toList = (s.data.toList.drop 2).take n := by rw [data_extract, List.drop_take]; congr 1; omega
     have hxs : (s.extract 2 (2 + n)).size = n := by rw [ByteArray.size_extract]; omega
     have hall : ∀ c ∈ (s.data.toList.drop 2).take n, isH c = true := fun c hc => digP_isH false c (List.all_eq_true.1 Hdig.out c hc)
     have hnb := fun w => number_any (s.extract 2 (2 + n)) false w (by omega) (by rw [hxd, List.all_eq_true]; exact hall)
     obtain ⟨v, hv⟩ := xE (valN (baseN false) ((s.data.toList.drop 2).take n));rw [hxd, hv] at hnb;have hvl : v < 536870912 := by
      have hl : ((s.data.toList.drop 2).take n).length = n := by rw [List.length_take, List.length_drop, Hlen.out]; omega
      have := valN_lt (baseN false) (by decide) n _ hl (fun c hc => dval_lt c (hall c hc));have h7 : 16 ^ n <= 16 ^ 7 := Nat.pow_le_pow_right (by omega) (by omega);omega
     rw [hv] at HO;obtain ⟨z, hz⟩ : ∃ z : Int, (v : Int) = z := ⟨_, rfl⟩
     have hz0 : 0 <= z /\ z < 536870912 := by omega
     have Hz := hid hz;rw [hz] at hnb;have Hnb := hid hnb;clear hnb hv hvl hz hxd hxs hall hg2;go_wp2_with (first | (go_at_call 139; refine (Hrun.out _).mono ?_; rintro e w1 ⟨rfl, rfl⟩) | (go_at_call 140; refine (Hnb.out _).mono ?_; rintro e w1 ⟨rfl, rfl⟩))
     refine (refEncode_any z (by omega) (by omega) _).mono ?_;rintro e w2 ⟨t3, r3, rfl, ht3, hr3, hb3⟩;have hbb := after hbw hb3 hbw.size;have HO2 : Hid ((((oneR s.data.toList).2 : Nat) : Int) = 2 + n + 1) := hid (by rw [HO.out]; show ((n + 1 + 2 : Nat) : Int) = _; omega);cases hok : encOk z with
     | false =>
      have hcb := chrOf_bad v (by rw [Hz.out]; exact hok);rw [Hz.out] at hcb;obtain rfl : r3 = 4 := by rw [hr3.out]; exact hcb.2
      have Hcb := hid hcb;clear hcb hok;go_wp2_with fail
      refine (refEncode_any 65533 (by omega) (by omega) _).mono ?_;rintro e w3 ⟨t4, r4, rfl, ht4, hr4, hb4⟩;go_wp2
      go_ret2;exact ⟨_, _, rfl, hid (by rw [HO.out, ht4.out]; exact Hcb.out.1.symm), hid (by rw [HO2.out]), after hbb hb4 hbb.size⟩
     | true =>
      by_cases hz1 : z = 0
      ·subst hz1;have hn0 : v = 0 := by have := Hz.out; omega
       obtain rfl : r3 = 0 := by rw [hr3.out]; rfl
       have Hcb : Hid (chrOf v = [239, 191, 189]) := hid (by rw [hn0]; rfl);clear hok;go_wp2_with fail
       refine (refEncode_any 65533 (by omega) (by omega) _).mono ?_;rintro e w3 ⟨t4, r4, rfl, ht4, hr4, hb4⟩;go_wp2
       go_ret2;exact ⟨_, _, rfl, hid (by rw [HO.out, ht4.out]; exact Hcb.out.symm), hid (by rw [HO2.out]), after hbb hb4 hbb.size⟩
      have hcb := chrOf_ok v (by rw [Hz.out]; exact hok) (by have := Hz.out; omega);rw [Hz.out] at hcb;obtain rfl : r3 = 0 := by rw [hr3.out]; exact hcb.2
      have Hcb := hid hcb;clear hcb hok;go_wp2
      go_ret2;exact ⟨_, _, rfl, hid (by rw [HO.out, ht3.out]; exact Hcb.out.1.symm), hid (by rw [HO2.out]), hbb⟩
    have HO : Hid (oneR s.data.toList = ([], 0)) := hid (by
     rw [HNum.out, HT.out, if_neg];rintro ⟨_, _, h⟩;rw [hget.out] at h;injection h with h
     rw [h] at hy;exact hy59 hy.symm)
    have hyne : (y == 59) = false := beq_eq_false_iff_ne.2 hy59;have hyne2 : (y != 59) = true := bne_iff_ne.2 hy59;go_wp2_with (go_at_call 139; refine (Hrun.out _).mono ?_; rintro e w1 ⟨rfl, rfl⟩)
    go_ret2;exact ⟨_, _, rfl, hid (by rw [HO.out]), hid (by rw [HO.out]; rfl), hbw⟩
def wordAt (k : Nat) : List UInt8 := match k with | 0 => [97, 109, 112] | 1 => [108, 116] | 2 => [103, 116] | 3 => [113, 117, 111, 116] | _ => [97, 112, 111, 115]
theorem unf_word (t : List UInt8) (k : Nat) (hk : k < 5) (h : begL t (wordAt k) = true) : unfR (38 :: t) = true := by
 unfold begL at h
 have hm : ∃ c, (wordAt k, c) ∈ names := by
  rcases (show k = 0 ∨ k = 1 ∨ k = 2 ∨ k = 3 ∨ k = 4 by omega) with rfl | rfl | rfl | rfl | rfl <;> simp [wordAt, names]
 obtain ⟨c, hc⟩ := hm
 show (_ || _) = true
 rw [List.any_eq_true.2 ⟨_, hc, h⟩]; rfl
theorem unf_rest (t : List UInt8) (h : ∀ k, k < 5 -> begL t (wordAt k) = false) : unfR (38 :: t) = ((partL t).2.2 && numericL (partL t).1 (partL t).2.1) := by
 have e : names.any (fun p => t.isPrefixOf p.1) = false := by
  rw [List.any_eq_false];intro p hp;simp only [names, List.mem_cons, List.not_mem_nil, or_false] at hp;have h0 := h 0 (by omega);have h1 := h 1 (by omega);have h2 := h 2 (by omega);have h3 := h 3 (by omega);have h4 := h 4 (by omega);unfold begL wordAt at h0 h1 h2 h3 h4;rcases hp with rfl | rfl | rfl | rfl | rfl <;> simp_all
 show (_ || _) = _
 rw [e, Bool.false_or]
theorem unf_no (s : List UInt8) (h : ∀ u, s ≠ 38 :: u) : unfR s = false := by
 unfold unfR
 split
 ·rename_i t; exact absurd rfl (h t)
 rfl
theorem num_run (l : List UInt8) (a : Nat) (hex : Bool) (ha : a <= l.length) : numericL (l.drop a) hex = (decide (runL l a hex <= 7) && decide (a + runL l a hex = l.length)) := by
 have hs := takeWhile_split (digP hex) (l.drop a)
 have hl := run_le l a hex
 have hall : (l.drop a).all (digP hex) = decide (a + runL l a hex = l.length) := by
  rw [Bool.eq_iff_iff, decide_eq_true_iff];constructor
  ·intro h;exact by
    have := run_all l a (l.length - a) hex (by rw [List.take_of_length_le (by rw [List.length_drop]; exact Nat.le_refl _)]; exact h) (by omega);omega
  intro h;have h1 := run_digits l a hex;rw [List.take_of_length_le (by rw [List.length_drop]; omega)] at h1;exact h1
 unfold numericL
 rw [hall, List.length_drop]
 rw [Bool.eq_iff_iff]
 simp only [Bool.and_eq_true, decide_eq_true_iff]
 omega
theorem beg_cons (t w : List UInt8) (c : UInt8) : begL (c :: t) (c :: w) = begL t w := by simp [begL, List.isPrefixOf]
theorem unf_nohash (t : List UInt8) (h : begL [38, 35] (38 :: t) = false) : (partL t).2.2 = false := by
 unfold partL
 split
 ·simp [begL, List.isPrefixOf] at h
 ·simp [begL, List.isPrefixOf] at h
 rfl
theorem refUnfinished_any (s : ByteArray) (w : World) (hs : s.size <= 1099511627776) :
  Calls Tryz.prog 135 #[.string s] w (RBool w (unfR s.data.toList)) := by
 have Hlen := hid (len_data s)
 by_cases h0 : s.size = 0
 ·obtain rfl : s = ⟨#[]⟩ := by
   have : s.data = #[] := Array.eq_empty_of_size_eq_zero h0;cases s; simp_all
  go_enter Tryz.func135, Tryz.ntmps135;go_wp2
  go_ret;exact ⟨_, rfl, hid rfl, Below.refl _ _⟩
 have hpos : 0 < s.size := by omega
 obtain ⟨c, t, hct⟩ : ∃ c t, s.data.toList = c :: t := by
  cases e : s.data.toList with
  | nil => have := Hlen.out; rw [e] at this; exact absurd this.symm h0
  | cons c t => exact ⟨c, t, rfl⟩
 have hemp : s.toList.isEmpty = false := by rw [ByteArray.toList_eq, hct]; rfl
 have hsc : s[0]'hpos = c := by rw [<- data_get s 0 hpos (by rw [len_data]; exact hpos)]; simp [hct]
 obtain ⟨n, hn⟩ : ∃ n : Int, ((s[0]'hpos).toNat : Int) = n := ⟨_, rfl⟩
 have Hct := hid hct
 by_cases h38 : n = 38
 ·obtain rfl : c = 38 := by
   rw [<- hsc]; exact UInt8.toNat_inj.1 (by have : (38 : UInt8).toNat = 38 := rfl; omega)
  subst h38;have HBE := hid (fun (p : ByteArray) (hp : p.size <= 1099511627776) (w : World) => begins_any s p w hs hp);have HB2 := hid (fun (w : World) => begins_any ⟨#[38, 35]⟩ s w (by simp [ByteArray.size]) hs);clear hct hsc;go_enter Tryz.func135, Tryz.ntmps135;go_wp2
  go_loopw [4] (fun i wr => ∃ k : Nat, k <= 5 /\ i = .int .i64 k /\ Hid (∀ j, j < k -> begL t (wordAt j) = false) /\ wr = w.alloc (.cells #[.string ⟨#[38, 97, 109, 112]⟩, .string ⟨#[38, 108, 116]⟩, .string ⟨#[38, 103, 116]⟩, .string ⟨#[38, 113, 117, 111, 116]⟩, .string ⟨#[38, 97, 112, 111, 115]⟩] 9)) (fun i _ => 5 - (intOf i).toNat)
  case atStart => exact ⟨0, by omega, rfl, hid (fun j h => absurd h (by omega)), rfl⟩
  obtain ⟨k, hk, rfl, hr, rfl⟩ := hrel;have hbw : Below w.heap.size w (w.alloc (.cells #[.string ⟨#[38, 97, 109, 112]⟩, .string ⟨#[38, 108, 116]⟩, .string ⟨#[38, 103, 116]⟩, .string ⟨#[38, 113, 117, 111, 116]⟩, .string ⟨#[38, 97, 112, 111, 115]⟩] 9)) := by go_grown
  rcases (show k = 0 ∨ k = 1 ∨ k = 2 ∨ k = 3 ∨ k = 4 ∨ k = 5 by omega) with rfl | rfl | rfl | rfl | rfl | rfl
  ·go_wp2_with fail
   refine (HBE.out _ (by simp [ByteArray.size]) _).mono ?_;rintro e w2 ⟨rfl, rfl⟩;obtain ⟨q, hq⟩ := xE (begL s.data.toList (⟨#[38, 97, 109, 112]⟩ : ByteArray).data.toList);rw [hq];have Hq : Hid (begL t (wordAt 0) = q) := hid (by
    rw [Hct.out] at hq;rw [<- hq]; exact (beg_cons t (wordAt 0) 38).symm)
   clear hq;cases q with
   | true =>
    have HU := hid (unf_word t 0 (by omega) Hq.out);go_wp2
    go_ret;exact ⟨_, rfl, hid (by rw [Hct.out, HU.out]), hbw⟩
   | false =>
    go_wp2
    go_roundw
    case rel =>
     refine ⟨0 + 1, by omega, by go_num, hid (fun j h => ?_), by first | trivial | rfl⟩;rcases Nat.lt_or_ge j 0 with hj | hj
     ·exact hr.out j hj
     obtain rfl : j = 0 := by omega
     exact Hq.out
    simp [intOf]
  ·go_wp2_with fail
   refine (HBE.out _ (by simp [ByteArray.size]) _).mono ?_;rintro e w2 ⟨rfl, rfl⟩;obtain ⟨q, hq⟩ := xE (begL s.data.toList (⟨#[38, 108, 116]⟩ : ByteArray).data.toList);rw [hq];have Hq : Hid (begL t (wordAt 1) = q) := hid (by
    rw [Hct.out] at hq;rw [<- hq]; exact (beg_cons t (wordAt 1) 38).symm)
   clear hq;cases q with
   | true =>
    have HU := hid (unf_word t 1 (by omega) Hq.out);go_wp2
    go_ret;exact ⟨_, rfl, hid (by rw [Hct.out, HU.out]), hbw⟩
   | false =>
    go_wp2
    go_roundw
    case rel =>
     refine ⟨1 + 1, by omega, by go_num, hid (fun j h => ?_), by first | trivial | rfl⟩;rcases Nat.lt_or_ge j 1 with hj | hj
     ·exact hr.out j hj
     obtain rfl : j = 1 := by omega
     exact Hq.out
    simp [intOf]
  ·go_wp2_with fail
   refine (HBE.out _ (by simp [ByteArray.size]) _).mono ?_;rintro e w2 ⟨rfl, rfl⟩;obtain ⟨q, hq⟩ := xE (begL s.data.toList (⟨#[38, 103, 116]⟩ : ByteArray).data.toList);rw [hq];have Hq : Hid (begL t (wordAt 2) = q) := hid (by
    rw [Hct.out] at hq;rw [<- hq]; exact (beg_cons t (wordAt 2) 38).symm)
   clear hq;cases q with
   | true =>
    have HU := hid (unf_word t 2 (by omega) Hq.out);go_wp2
    go_ret;exact ⟨_, rfl, hid (by rw [Hct.out, HU.out]), hbw⟩
   | false =>
    go_wp2
    go_roundw
    case rel =>
     refine ⟨2 + 1, by omega, by go_num, hid (fun j h => ?_), by first | trivial | rfl⟩;rcases Nat.lt_or_ge j 2 with hj | hj
     ·exact hr.out j hj
     obtain rfl : j = 2 := by omega
     exact Hq.out
    simp [intOf]
  ·go_wp2_with fail
   refine (HBE.out _ (by simp [ByteArray.size]) _).mono ?_;rintro e w2 ⟨rfl, rfl⟩;obtain ⟨q, hq⟩ := xE (begL s.data.toList (⟨#[38, 113, 117, 111, 116]⟩ : ByteArray).data.toList);rw [hq];have Hq : Hid (begL t (wordAt 3) = q) := hid (by
    rw [Hct.out] at hq;rw [<- hq]; exact (beg_cons t (wordAt 3) 38).symm)
   clear hq;cases q with
   | true =>
    have HU := hid (unf_word t 3 (by omega) Hq.out);go_wp2
    go_ret;exact ⟨_, rfl, hid (by rw [Hct.out, HU.out]), hbw⟩
   | false =>
    go_wp2
    go_roundw
    case rel =>
     refine ⟨3 + 1, by omega, by go_num, hid (fun j h => ?_), by first | trivial | rfl⟩;rcases Nat.lt_or_ge j 3 with hj | hj
     ·exact hr.out j hj
     obtain rfl : j = 3 := by omega
     exact Hq.out
    simp [intOf]
  ·go_wp2_with fail
   refine (HBE.out _ (by simp [ByteArray.size]) _).mono ?_;rintro e w2 ⟨rfl, rfl⟩;obtain ⟨q, hq⟩ := xE (begL s.data.toList (⟨#[38, 97, 112, 111, 115]⟩ : ByteArray).data.toList);rw [hq];have Hq : Hid (begL t (wordAt 4) = q) := hid (by
    rw [Hct.out] at hq;rw [<- hq]; exact (beg_cons t (wordAt 4) 38).symm)
   clear hq;cases q with
   | true =>
    have HU := hid (unf_word t 4 (by omega) Hq.out);go_wp2
    go_ret;exact ⟨_, rfl, hid (by rw [Hct.out, HU.out]), hbw⟩
   | false =>
    go_wp2
    go_roundw
    case rel =>
     refine ⟨4 + 1, by omega, by go_num, hid (fun j h => ?_), by first | trivial | rfl⟩;rcases Nat.lt_or_ge j 4 with hj | hj
     ·exact hr.out j hj
     obtain rfl : j = 4 := by omega
     exact Hq.out
    simp [intOf]
  have HU := hid (unf_rest t hr.out);obtain ⟨W, hW⟩ := xE (w.alloc (.cells #[.string ⟨#[38, 97, 109, 112]⟩, .string ⟨#[38, 108, 116]⟩, .string ⟨#[38, 103, 116]⟩, .string ⟨#[38, 113, 117, 111, 116]⟩, .string ⟨#[38, 97, 112, 111, 115]⟩] 9));rw [hW] at hbw ⊢;clear hW;go_wp2_with fail
  refine (HB2.out _).mono ?_;rintro e w2 ⟨rfl, rfl⟩;obtain ⟨q, hq⟩ := xE (begL (⟨#[38, 35]⟩ : ByteArray).data.toList s.data.toList);rw [hq];have Hq := hid hq;clear hq;cases q with
  | false =>
   have HU2 : Hid (unfR s.data.toList = false) := hid (by
    have h1 := Hq.out;rw [Hct.out] at h1;rw [Hct.out, HU.out, unf_nohash t h1]; rfl)
   go_wp2
   go_ret;exact ⟨_, rfl, hid HU2.out.symm, hbw⟩
  | true =>
   obtain ⟨u, hu⟩ : ∃ u, t = 35 :: u := by
    have := Hq.out;unfold begL at this;rw [List.isPrefixOf_iff_prefix, Hct.out] at this;obtain ⟨r, hr⟩ := this;have hr2 : 38 :: 35 :: r = 38 :: t := hr;injection hr2 with _ hr2
    exact ⟨r, hr2.symm⟩
   subst hu;have hszu : s.size = u.length + 2 := by rw [<- Hlen.out, Hct.out]; simp
   have Hszu := hid hszu;clear hszu;cases u with
   | nil =>
    have hsz2 : (s.size : Int) = 2 := by rw [Hszu.out]; rfl
    have hR : runL s.data.toList 2 false = 0 := by rw [Hct.out]; rfl
    have hrun := fun w => run_any s 2 false w hs (by omega)
    rw [hR] at hrun;have Hrun := hid hrun;clear hrun hR;have HU2 : Hid (unfR s.data.toList = true) := hid (by rw [Hct.out, HU.out]; rfl);go_wp2_with (go_at_call 139; refine (Hrun.out _).mono ?_; rintro e w1 ⟨rfl, rfl⟩)
    go_ret;exact ⟨_, rfl, hid HU2.out.symm, hbw⟩
   | cons d v =>
    have hsz3 : 2 < s.size := by rw [Hszu.out]; simp
    have hsd : s[2]'hsz3 = d := by rw [<- data_get s 2 hsz3 (by rw [Hlen.out]; exact hsz3)]; simp [Hct.out]
    obtain ⟨m, hm⟩ : ∃ m : Int, ((s[2]'hsz3).toNat : Int) = m := ⟨_, rfl⟩
    have hm0 : 0 <= m /\ m <= 255 := by have := (s[2]'hsz3).toNat_lt; omega
    have hX : isX d = ((m == 120) || (m == 88)) := by
     have := byte_all (p := fun c n => isX c = ((n == 120) || (n == 88))) (by decide +kernel) m hm0.1 hm0.2;rw [<- hm, bOf_cast, hm, hsd] at this; exact this
    cases hx : isX d with
    | true =>
     rw [hx] at hX;have HX := hid hx;have hmx : m = 120 ∨ m = 88 := by
      have := hX.symm;rw [Bool.or_eq_true, beq_iff_eq, beq_iff_eq] at this; exact this
     clear hX hsd hx;rcases hmx with rfl | rfl
     ·have HU2 : Hid (unfR s.data.toList = numericL (s.data.toList.drop 3) true) := hid (by
       have hd : s.data.toList.drop 3 = v := by rw [Hct.out]; rfl
       rw [hd, Hct.out, HU.out]; simp only [partL]; rw [HX.out]; rfl)
      have HN := hid (num_run s.data.toList 3 true (by rw [Hlen.out]; omega));have hrl := run_le s.data.toList 3 true;rw [Hlen.out] at hrl HN;have hrun := fun w => run_any s 3 true w hs (by omega)
      obtain ⟨n, hn⟩ := xE (runL s.data.toList 3 true);rw [hn] at hrl HN;simp only [hn] at hrun;have Hrun := hid hrun;clear hn hrun;by_cases h7 : n <= 7
      ·by_cases he : 3 + n = s.size
       ·have HF : Hid (unfR s.data.toList = true) := hid (by rw [HU2.out, HN.out, decide_eq_true h7, decide_eq_true he]; rfl);have he2 : (3 : Int) + n = s.size := by omega
        go_wp2_with (go_at_call 139; refine (Hrun.out _).mono ?_; rintro e w1 ⟨rfl, rfl⟩)
        go_ret;exact ⟨_, rfl, hid (by rw [HF.out]), hbw⟩
       have HF : Hid (unfR s.data.toList = false) := hid (by rw [HU2.out, HN.out, decide_eq_false he, Bool.and_false]);have he2 : ((3 : Int) + n == s.size) = false := beq_eq_false_iff_ne.2 (by omega);go_wp2_with (go_at_call 139; refine (Hrun.out _).mono ?_; rintro e w1 ⟨rfl, rfl⟩)
       go_ret;exact ⟨_, rfl, hid (by rw [HF.out]), hbw⟩
      have HF : Hid (unfR s.data.toList = false) := hid (by rw [HU2.out, HN.out, decide_eq_false h7]; rfl);go_wp2_with (go_at_call 139; refine (Hrun.out _).mono ?_; rintro e w1 ⟨rfl, rfl⟩)
      go_ret;exact ⟨_, rfl, hid (by rw [HF.out]), hbw⟩
     have HU2 : Hid (unfR s.data.toList = numericL (s.data.toList.drop 3) true) := hid (by
      have hd : s.data.toList.drop 3 = v := by rw [Hct.out]; rfl
      rw [hd, Hct.out, HU.out]; simp only [partL]; rw [HX.out]; rfl)
     have HN := hid (num_run s.data.toList 3 true (by rw [Hlen.out]; omega));have hrl := run_le s.data.toList 3 true;rw [Hlen.out] at hrl HN;have hrun := fun w => run_any s 3 true w hs (by omega)
     obtain ⟨n, hn⟩ := xE (runL s.data.toList 3 true);rw [hn] at hrl HN;simp only [hn] at hrun;have Hrun := hid hrun;clear hn hrun;by_cases h7 : n <= 7
     ·by_cases he : 3 + n = s.size
      ·have HF : Hid (unfR s.data.toList = true) := hid (by rw [HU2.out, HN.out, decide_eq_true h7, decide_eq_true he]; rfl);have he2 : (3 : Int) + n = s.size := by omega
       go_wp2_with (go_at_call 139; refine (Hrun.out _).mono ?_; rintro e w1 ⟨rfl, rfl⟩)
       go_ret;exact ⟨_, rfl, hid (by rw [HF.out]), hbw⟩
      have HF : Hid (unfR s.data.toList = false) := hid (by rw [HU2.out, HN.out, decide_eq_false he, Bool.and_false]);have he2 : ((3 : Int) + n == s.size) = false := beq_eq_false_iff_ne.2 (by omega);go_wp2_with (go_at_call 139; refine (Hrun.out _).mono ?_; rintro e w1 ⟨rfl, rfl⟩)
      go_ret;exact ⟨_, rfl, hid (by rw [HF.out]), hbw⟩
     have HF : Hid (unfR s.data.toList = false) := hid (by rw [HU2.out, HN.out, decide_eq_false h7]; rfl);go_wp2_with (go_at_call 139; refine (Hrun.out _).mono ?_; rintro e w1 ⟨rfl, rfl⟩)
     go_ret;exact ⟨_, rfl, hid (by rw [HF.out]), hbw⟩
    | false =>
     rw [hx] at hX;have HX := hid hx;have hm1 : (m == 120) = false /\ (m == 88) = false := by
      have := hX.symm;rw [Bool.or_eq_false_iff] at this; exact this
     obtain ⟨hm1, hm2⟩ := hm1;clear hX hsd hx;have HU2 : Hid (unfR s.data.toList = numericL (s.data.toList.drop 2) false) := hid (by
      have hd : s.data.toList.drop 2 = d :: v := by rw [Hct.out]; rfl
      rw [hd, Hct.out, HU.out]; simp only [partL]; rw [HX.out]; rfl)
     have HN := hid (num_run s.data.toList 2 false (by rw [Hlen.out]; omega));have hrl := run_le s.data.toList 2 false;rw [Hlen.out] at hrl HN;have hrun := fun w => run_any s 2 false w hs (by omega)
     obtain ⟨n, hn⟩ := xE (runL s.data.toList 2 false);rw [hn] at hrl HN;simp only [hn] at hrun;have Hrun := hid hrun;clear hn hrun;by_cases h7 : n <= 7
     ·by_cases he : 2 + n = s.size
      ·have HF : Hid (unfR s.data.toList = true) := hid (by rw [HU2.out, HN.out, decide_eq_true h7, decide_eq_true he]; rfl);have he2 : (2 : Int) + n = s.size := by omega
       go_wp2_with (go_at_call 139; refine (Hrun.out _).mono ?_; rintro e w1 ⟨rfl, rfl⟩)
       go_ret;exact ⟨_, rfl, hid (by rw [HF.out]), hbw⟩
      have HF : Hid (unfR s.data.toList = false) := hid (by rw [HU2.out, HN.out, decide_eq_false he, Bool.and_false]);have he2 : ((2 : Int) + n == s.size) = false := beq_eq_false_iff_ne.2 (by omega);go_wp2_with (go_at_call 139; refine (Hrun.out _).mono ?_; rintro e w1 ⟨rfl, rfl⟩)
      go_ret;exact ⟨_, rfl, hid (by rw [HF.out]), hbw⟩
     have HF : Hid (unfR s.data.toList = false) := hid (by rw [HU2.out, HN.out, decide_eq_false h7]; rfl);go_wp2_with (go_at_call 139; refine (Hrun.out _).mono ?_; rintro e w1 ⟨rfl, rfl⟩)
     go_ret;exact ⟨_, rfl, hid (by rw [HF.out]), hbw⟩
 have hne : (n == 38) = false := beq_eq_false_iff_ne.2 h38
 have HU : Hid (unfR s.data.toList = false) := hid (unf_no _ (fun u e => by
  rw [hct] at e;injection e with e _
  apply h38;rw [<- hn, hsc, e]; rfl))
 clear hct hsc
 go_enter Tryz.func135, Tryz.ntmps135
 go_wp2
 go_ret
 exact ⟨_, rfl, hid HU.out.symm, Below.refl _ _⟩
def PBare (c : Int) (w : World) (e : Ending) (w' : World) : Prop := ∃ b : Bool, e = .returned (.bool b) /\ (b = true -> 0 <= c /\ c < 128) /\ w' = w
theorem bare_any (c : Int) (w : World) : Calls Tryz.prog 131 #[.int .i64 c] w (PBare c w) := by
 go_enter Tryz.func131, Tryz.ntmps131
 by_cases h1 : c < 128
 ·by_cases h0 : 0 <= c
  ·have hw : IntKind.u8.wrap c = c := IntWalk.u8_in _ (by omega);have HL := hid (fun W => refLetter_any c h0 (by omega) W);have HD := hid (fun W => refDigit_any c h0 (by omega) W);obtain ⟨bl, hbl⟩ := xE (isLetter (bOf c));obtain ⟨bd, hbd⟩ := xE (isDigit (bOf c));rw [hbl] at HL;rw [hbd] at HD;clear hbl hbd;obtain ⟨q1, hq1⟩ := xE (c == 32);obtain ⟨q2, hq2⟩ := xE (c == 95);obtain ⟨q3, hq3⟩ := xE (c == 46);obtain ⟨q4, hq4⟩ := xE (c == 44);cases bl <;> cases bd
   all_goals (
    go_wp2_with (first
     | (go_at_call 62; refine (HL.out _).mono ?_; rintro e w1 ⟨rfl, rfl⟩)
     | (go_at_call 63; refine (HD.out _).mono ?_; rintro e w1 ⟨rfl, rfl⟩))
    all_goals (go_ret; exact ⟨_, rfl, fun _ => ⟨h0, h1⟩, rfl⟩))
  go_wp2_with fail
  go_ret;exact ⟨_, rfl, fun h => (by cases h), rfl⟩
 go_wp2_with fail
 go_ret
 exact ⟨_, rfl, fun h => (by cases h), rfl⟩
theorem inside_any (s : ByteArray) (w : World) (hs : s.size <= 4294967296) : Calls Tryz.prog 110 #[.string s] w (PS (12 * s.size) w) := by
 have hl1 := charsL_len _ s.data.toList (Nat.le_refl _)
 rw [len_data] at hl1
 have Hok := hid (charsL_ok _ s.data.toList (Nat.le_refl _))
 obtain ⟨cs, hcs⟩ := xE (charsL s.data.toList)
 rw [hcs] at hl1 Hok
 have HB := hid (fun n W => bare_any n W)
 have Hx := hid (fun n W => hexS_any n 4 (by decide) W)
 go_enter Tryz.func110, Tryz.ntmps110
 go_wp2_with (go_at_call 123; refine (refChars_any _ _ (by omega)).mono ?_)
 rintro e w1 ⟨v, rfl, hv, hb1⟩
 rw [hcs] at hv
 have hcell := hv.cells
 have Hcell := hid hcell
 obtain ⟨ad, cap, rfl⟩ := hv.shape
 obtain ⟨nc, hnc⟩ := xE cs.length
 have Hb1 := hid hb1
 have Hnc := hid hnc
 rw [hnc] at hl1 ⊢
 clear hv hcell hcs hb1 hnc
 go_wp2
 go_loopw [3, 5] (fun o i wr => ∃ (k : Nat) (t : ByteArray), k <= nc /\ i = .int .i64 (k : Int) /\ o = .string t /\ t.size <= 12 * k /\ Below w1.heap.size w1 wr) (fun _ i _ => nc - (intOf i).toNat)
 case atStart => exact ⟨0, _, Nat.zero_le _, rfl, rfl, Nat.zero_le _, Below.refl _ _⟩
 obtain ⟨k, t, hk, rfl, rfl, ht, hb⟩ := hrel
 have Hb := hid hb
 by_cases hlt : k < nc
 ·have hli : (k : Int) < (nc : Int) := by omega
  have hk0 : (0 : Int) <= (k : Int) := by omega
  have hlt2 : k < cs.length := by rw [Hnc.out]; exact hlt
  have hx : ∃ g, ad = some ⟨g, 0, none⟩ /\ g < w1.heap.size /\ w1.cell? ⟨g, k, none⟩ = some (.int .i64 cs[k]) := by
   rcases Hcell.out with ⟨_, h0⟩ | ⟨g, cp, he, _, hg, hc⟩
   ·rw [h0] at hlt2; simp at hlt2
   injection he with he _ _
   exact ⟨g, he, hg, hc k hlt2⟩
  obtain ⟨g, rfl, hg, hc⟩ := hx;rw [<- hb.cell (p := ⟨g, k, none⟩) hg] at hc;obtain ⟨x, hx⟩ := xE cs[k];rw [hx] at hc;have hxo := Hok.out x (by rw [<- hx]; exact List.getElem_mem hlt2);have hxb := of_decide_eq_true hxo.1;have hx1 : 0 <= x /\ x <= 1114111 := by omega
  clear hx hxo hxb hb;by_cases hx128 : x < 128
  ·have HBx : Hid (∀ W, Calls Tryz.prog 131 #[.int .i64 x] W (PBare x W)) := hid (HB.out x);have hwx : IntKind.u8.wrap x = x := IntWalk.u8_in _ (by omega);have hcv := BytesIn.back (P := Tryz.prog) (one_new wr x 5 (by omega) (by omega)) 1 _ _ _ Tryz.underlying62 Tryz.underlying5 Tryz.underlying9 1 rfl;have hge : ¬ (65536 <= x) := by omega
   go_wp2_with (first
    | (go_at_call 131; refine (HBx.out _).mono ?_; rintro e w2 ⟨b, rfl, hb2, hw⟩; obtain rfl := hw; cases b)
    | (go_at_call 130; refine (Hx.out _ _).mono ?_; rintro e w3 ⟨y, rfl, hy, hw⟩; obtain rfl := hw))
   ·go_roundw
    case rel => exact ⟨k + 1, _, by omega, by go_num, rfl, by simp only [ByteArray.size_append]; have : (⟨#[92, 117]⟩ : ByteArray).size = 2 := rfl; omega, Hb.out⟩
    simp [intOf]; omega
   go_roundw
   case rel => exact ⟨k + 1, _, by omega, by go_num, rfl, by simp only [ByteArray.size_append]; have : (⟨[bOf x].toArray⟩ : ByteArray).size = 1 := rfl; omega, Hb.out.trans (((Below.refl _ _).alloc (Nat.le_refl _) _).mono Hb.out.size)⟩
   simp [intOf]; omega
  have HBx : Hid (∀ W, Calls Tryz.prog 131 #[.int .i64 x] W (fun e w' => e = .returned (.bool false) /\ w' = W)) := hid (fun W => (HB.out x W).mono (by
   rintro e w2 ⟨b, rfl, hb2, hw⟩;cases b
   ·exact ⟨rfl, hw⟩
   exact absurd (hb2 rfl).2 hx128))
  by_cases hge : 65536 <= x
  ·go_wp2_with (first
    | (go_at_call 131; refine (HBx.out _).mono ?_; rintro e w2 ⟨rfl, hw⟩; obtain rfl := hw)
    | (go_at_call 130; refine (Hx.out _ _).mono ?_; rintro e w3 ⟨y, rfl, hy, hw⟩; obtain rfl := hw))
   go_roundw
   case rel => exact ⟨k + 1, _, by omega, by go_num, rfl, by simp only [ByteArray.size_append]; have : (⟨#[92, 117]⟩ : ByteArray).size = 2 := rfl; omega, Hb.out⟩
   simp [intOf]; omega
  go_wp2_with (first
   | (go_at_call 131; refine (HBx.out _).mono ?_; rintro e w2 ⟨rfl, hw⟩; obtain rfl := hw)
   | (go_at_call 130; refine (Hx.out _ _).mono ?_; rintro e w3 ⟨y, rfl, hy, hw⟩; obtain rfl := hw))
  go_roundw
  case rel => exact ⟨k + 1, _, by omega, by go_num, rfl, by simp only [ByteArray.size_append]; have : (⟨#[92, 117]⟩ : ByteArray).size = 2 := rfl; omega, Hb.out⟩
  simp [intOf]; omega
 obtain rfl : k = nc := by omega
 go_wp2
 go_ret
 exact ⟨_, rfl, by omega, Hb1.out.trans (Hb.out.mono Hb1.out.size)⟩
theorem quote_any (s : ByteArray) (w : World) (hs : s.size <= 4294967296) : Calls Tryz.prog 107 #[.string s] w (PS (12 * s.size + 2) w) := by
 have HI := hid (fun W => inside_any s W hs)
 go_enter Tryz.func107, Tryz.ntmps107
 go_wp2_with (go_at_call 110; refine (HI.out _).mono ?_; rintro e w1 ⟨t, rfl, ht, hb1⟩)
 go_ret
 exact ⟨_, rfl, by simp only [ByteArray.size_append]; have : (⟨#[34]⟩ : ByteArray).size = 1 := rfl; omega, hb1⟩
def chOk (s : ByteArray) (k : Nat) : Bool := if h : k < s.size then (isLetter (bOf ((s[k]'h).toNat : Int)) || (((s[k]'h).toNat : Int) == 95) || (k != 0 && isDigit (bOf ((s[k]'h).toNat : Int)))) else true
def nameX (s : ByteArray) : Bool := (List.range s.size).all (chOk s) && (decide (1 <= s.size) && decide (s.size <= 32))
theorem nameX_no {s : ByteArray} {k : Nat} (h : k < s.size) (hc : chOk s k = false) : nameX s = false := by
 unfold nameX
 have : (List.range s.size).all (chOk s) = false := by
  rw [List.all_eq_false];exact ⟨k, List.mem_range.2 h, by rw [hc]; decide⟩
 rw [this]; rfl
theorem nameX_end {s : ByteArray} (h : ∀ i, i < s.size -> chOk s i = true) : nameX s = (decide (1 <= s.size) && decide (s.size <= 32)) := by
 unfold nameX
 have : (List.range s.size).all (chOk s) = true := List.all_eq_true.2 fun k hk => h k (List.mem_range.1 hk)
 rw [this, Bool.true_and]
def PNx (s : ByteArray) (w : World) (e : Ending) (w' : World) : Prop := e = .returned (.bool (nameX s)) /\ w' = w
theorem nameX_any (s : ByteArray) (w : World) (hs : s.size <= 1099511627776) : Calls Tryz.prog 51 #[.string s] w (PNx s w) := by
 have Hd := hid (fun n h0 h1 W => refDigit_any n h0 h1 W)
 have Hl := hid (fun n h0 h1 W => refLetter_any n h0 h1 W)
 go_enter Tryz.func51, Tryz.ntmps51
 go_wp2
 go_loop [3] (fun i => ∃ k : Nat, i = .int .i64 (k : Int) /\ k <= s.size /\ ∀ j, j < k -> chOk s j = true) (fun i => s.size - (intOf i).toNat)
 case atStart => exact ⟨0, rfl, Nat.zero_le _, fun j h => by omega⟩
 obtain ⟨k, rfl, hk, hall⟩ := hrel
 have Hall := hid hall
 clear hall
 by_cases hlt : k < s.size
 ·obtain ⟨n, hn, h0, h1⟩ := u8b s k hlt;have HD := hid (fun W => Hd.out n h0 h1 W);have HL := hid (fun W => Hl.out n h0 h1 W);have Hc : Hid (chOk s k = (isLetter (bOf n) || (n == 95) || (k != 0 && isDigit (bOf n)))) := hid (by unfold chOk; rw [dif_pos hlt, hn]);obtain ⟨b1, hb1⟩ := xE (isDigit (bOf n));obtain ⟨b2, hb2⟩ := xE (isLetter (bOf n));rw [hb1] at HD Hc;rw [hb2] at HL Hc;clear hb1 hb2;obtain ⟨q9, hq9⟩ := xE (n != 95);have hq9' : (n == 95) = !q9 := by rw [<- hq9]; simp [bne]
  obtain ⟨q0, hq0⟩ := xE ((k : Int) == 0);have hq0' : (k != 0) = !q0 := by
   rw [<- hq0];by_cases h : k = 0
   ·subst h; rfl
   rw [bne_iff_ne.2 h, beq_eq_false_iff_ne.2 (by omega : (k : Int) ≠ 0)]; rfl
  have Hc2 := Hc.out;rw [hq9', hq0'] at Hc2;have Hc3 := hid Hc2;clear Hc2 Hc hq0' hq9';cases b1 <;> cases b2 <;> cases q9 <;> cases q0
  all_goals (
   go_wp2_with (first
    | (go_at_call 63; refine (HD.out _).mono ?_; rintro e w1 ⟨rfl, rfl⟩)
    | (go_at_call 62; refine (HL.out _).mono ?_; rintro e w1 ⟨rfl, rfl⟩))
   all_goals first
    | (go_ret; exact ⟨(by have e := nameX_no hlt Hc3.out; first | (rw [e]; done) | (rw [e]; rfl) | simp [e]), rfl⟩)
    | (go_round
       case rel => exact ⟨k + 1, by go_num, by omega, fun j hj => by
        rcases Nat.lt_succ_iff_lt_or_eq.1 hj with h | rfl
        ·exact Hall.out j h
        exact Hc3.out⟩
       simp [intOf]; omega))
 obtain rfl : k = s.size := by omega
 have hx := nameX_end Hall.out
 by_cases h1 : 1 <= s.size
 ·by_cases h32 : s.size <= 32
  ·have hi1 : (1 : Int) <= (s.size : Int) := by omega
   have hi2 : (s.size : Int) <= 32 := by omega
   rw [decide_eq_true h1, decide_eq_true h32] at hx;have Hx := hid hx;clear hx;go_wp2
   go_ret;exact ⟨(by have e := Hx.out; first | (rw [e]; done) | (rw [e]; rfl) | simp [e]), rfl⟩
  have hi1 : (1 : Int) <= (s.size : Int) := by omega
  have hi2 : ¬ ((s.size : Int) <= 32) := by omega
  rw [decide_eq_false h32, Bool.and_false] at hx;have Hx := hid hx;clear hx;go_wp2
  go_ret;exact ⟨(by have e := Hx.out; first | (rw [e]; done) | (rw [e]; rfl) | simp [e]), rfl⟩
 have hi1 : ¬ ((1 : Int) <= (s.size : Int)) := by omega
 rw [decide_eq_false h1, Bool.false_and] at hx
 have Hx := hid hx
 clear hx
 go_wp2
 go_ret
 exact ⟨(by have e := Hx.out; first | (rw [e]; done) | (rw [e]; rfl) | simp [e]), rfl⟩
theorem rising_any {S : Nat -> Prop} (l : List ByteArray) (n : Nat) (hn : l.length = n) (hz : n <= 2097152) (hs : ∀ x ∈ l, x.size <= 2097152) (A : Option Addr) (c : Nat) (w : World) (hr : RowsV w S 1 A 0 (strRows l)) : Calls Tryz.prog 28 #[.slice A n c] w (AB w) := by
 have hR := hid hr
 have Hn := hid hn
 have Hs := hid hs
 clear hr hn hs
 go_enter Tryz.func28, Tryz.ntmps28
 go_wp2_with fail
 go_loopw [3] (fun i wr => ∃ j : Nat, j <= n /\ i = .int .i64 (j : Int) /\ Below w.heap.size w wr) (fun i _ => n - (intOf i).toNat)
 case atStart => exact ⟨0, Nat.zero_le _, rfl, Below.refl _ _⟩
 obtain ⟨j, hj, rfl, hb⟩ := hrel
 have Hb := hid hb
 clear hb
 obtain ⟨W0, rfl⟩ := xS wr
 by_cases hlt : j < n
 ·have hli : (j : Int) < (n : Int) := by omega
  have hj0 : (0 : Int) <= (j : Int) := by omega
  have hjl : j < l.length := by have := Hn.out; omega
  obtain ⟨ad, rfl, _, hadl, hrow⟩ := RowsV.get (f := fun x => [Dt.str x]) (RowsV.below hR.out Hb.out) hjl;have hsz := Hs.out _ (List.getElem_mem hjl);obtain ⟨d, hd⟩ := xE l[j];rw [hd] at hrow hsz;have a0 := Str.at_ hrow;simp only [Nat.mul_one] at a0;clear hrow hd;have HN : Hid (∀ W, Calls Tryz.prog 51 #[.string d] W (fun e w' => e = .returned (.bool (nameX d)) /\ w' = W)) := hid (fun W => nameX_any d W (by omega));go_upto_region 4 with fail
  go_cut [31] from 4 to 31 (fun cc wx => ∃ b : Bool, cc = .bool b /\ Below W0.heap.size W0 wx)
  case first =>
   by_cases hj1 : 0 < j
   ·have hj1i : (0 : Int) < (j : Int) := by omega
    have hjm : (0 : Int) <= (j : Int) - 1 := by omega
    have hjm2 : (j : Int) - 1 < (n : Int) := by omega
    have hjl2 : j - 1 < l.length := by omega
    obtain ⟨ad', hAd, _, _, hrow⟩ := RowsV.get (f := fun x => [Dt.str x]) (RowsV.below hR.out Hb.out) hjl2;cases hAd;obtain ⟨d2, hd2⟩ := xE l[j - 1];rw [hd2] at hrow;have a1 := Str.at_ hrow;simp only [Nat.mul_one] at a1;have hjt : ((j : Int) - 1).toNat = j - 1 := by omega
    clear hrow hd2;obtain ⟨qx, hqx⟩ := xE (nameX d);rw [hqx] at HN;cases qx
    all_goals (
     go_quiet (first | (go_at_call 51; exact Calls.quiet_of_same (HN.out _)))
     go_wp2_with fail
     go_meet;exact ⟨_, rfl, below_drewN (Below.refl _ _) nq⟩)
   have hj1i : ¬ ((0 : Int) < (j : Int)) := by omega
   obtain ⟨qx, hqx⟩ := xE (nameX d);rw [hqx] at HN;cases qx
   all_goals (
    go_quiet (first | (go_at_call 51; exact Calls.quiet_of_same (HN.out _)))
    go_wp2_with fail
    go_meet;exact ⟨_, rfl, below_drewN (Below.refl _ _) nq⟩)
  obtain ⟨b, rfl, hb2⟩ := hcut;obtain ⟨w2, rfl⟩ := xS wc;have Hb2 := hid (Hb.out.trans (hb2.mono Hb.out.size));clear hb2 a0;cases b
  ·go_wp2_with fail
   go_roundw
   case rel => exact ⟨j + 1, by omega, by go_num, Hb2.out⟩
   simp [intOf]; omega
  go_wp2_with fail
  go_ret;exact ⟨false, rfl, Hb2.out⟩
 obtain rfl : j = n := by omega
 go_wp2_with fail
 go_ret
 exact ⟨true, rfl, Hb.out⟩
end Go.Proofs.YtkcnmjdomipbjaaGreat
