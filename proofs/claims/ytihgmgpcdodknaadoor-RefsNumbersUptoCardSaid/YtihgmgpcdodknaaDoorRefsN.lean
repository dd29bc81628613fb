/- Print and Hex of the pages; RefsNumbers. -/
import Derived.Test.YtihgmgpcdodknaaDoorRefsX
import Derived.Test.YtihgmgpcdodknaaDoorEnc
import Derived.Outline
set_option linter.unusedVariables false
namespace Go.Proofs.YtihgmgpcdodknaaDoor
open Go.RowKit

theorem valN_from (base : Nat) : ∀ (l : List UInt8) (a : Nat), l.foldl (fun n c => n * base + dval c) a = a * base ^ l.length + valN base l
  | [], a => by simp [valN]
  | c :: l, a => by
    have h1 := valN_from base l (a * base + dval c)
    have h2 := valN_from base l (0 * base + dval c)
    simp only [valN, List.foldl_cons, List.length_cons, Nat.pow_succ] at h1 h2 ⊢
    rw [h1, h2, Nat.add_mul, Nat.zero_mul, Nat.zero_add, Nat.mul_assoc, Nat.mul_comm base, Nat.add_assoc]
theorem valN_cons (base : Nat) (c : UInt8) (l : List UInt8) : valN base (c :: l) = dval c * base ^ l.length + valN base l := by
  show l.foldl (fun n c => n * base + dval c) (0 * base + dval c) = _
  rw [valN_from, Nat.zero_mul, Nat.zero_add]

/-- a digit -/
def dgt (d : Nat) : UInt8 := UInt8.ofNat (if d < 10 then 48 + d else 87 + d)
theorem dgt16f : ∀ d : Fin 16, isH (dgt d.val) = true ∧ dval (dgt d.val) = d.val := by decide +kernel
theorem dgt10f : ∀ d : Fin 10, isD (dgt d.val) = true ∧ dval (dgt d.val) = d.val := by decide +kernel
theorem dgt16 (d : Nat) (h : d < 16) : isH (dgt d) = true ∧ dval (dgt d) = d := dgt16f ⟨d, h⟩
theorem dgt10 (d : Nat) (h : d < 10) : isD (dgt d) = true ∧ dval (dgt d) = d := dgt10f ⟨d, h⟩
def tabH : List UInt8 := [48, 49, 50, 51, 52, 53, 54, 55, 56, 57, 97, 98, 99, 100, 101, 102]
def tabD : List UInt8 := [48, 49, 50, 51, 52, 53, 54, 55, 56, 57]
theorem tab16f : ∀ d : Fin 16, (tabH.take (d.val + 1)).drop d.val = [dgt d.val] := by decide +kernel
theorem tab10f : ∀ d : Fin 10, (tabD.take (d.val + 1)).drop d.val = [dgt d.val] := by decide +kernel
theorem tab16 (d : Nat) (h : d < 16) : (ByteArray.extract ⟨#[48, 49, 50, 51, 52, 53, 54, 55, 56, 57, 97, 98, 99, 100, 101, 102]⟩ d (d + 1)).data.toList = [dgt d] := by
  rw [data_extract]; exact tab16f ⟨d, h⟩
theorem tab10 (d : Nat) (h : d < 10) : (ByteArray.extract ⟨#[48, 49, 50, 51, 52, 53, 54, 55, 56, 57]⟩ d (d + 1)).data.toList = [dgt d] := by
  rw [data_extract]; exact tab10f ⟨d, h⟩

/-- decimals of u, ahead of out, in at most f + 1 of them -/
def prN : Nat → Nat → List UInt8 → List UInt8
  | 0, u, out => dgt u :: out
  | f + 1, u, out => if 10 ≤ u then prN f (u / 10) (dgt (u % 10) :: out) else dgt u :: out
theorem prN_small (f u : Nat) (out : List UInt8) (h : u < 10) : prN f u out = dgt u :: out := by
  cases f with
  | zero => rfl
  | succ f => unfold prN; rw [if_neg (by omega)]
theorem prN_more (f u : Nat) (out : List UInt8) (h : 10 ≤ u) : prN (f + 1) u out = prN f (u / 10) (dgt (u % 10) :: out) := by
  show (if 10 ≤ u then _ else _) = _
  rw [if_pos h]
def prL (n : Nat) : List UInt8 := prN 7 n []
theorem prN_tells : ∀ (f u : Nat) (out : List UInt8), u < 10 ^ (f + 1) → out.all isD = true →
    (prN f u out).all isD = true ∧ 1 ≤ (prN f u out).length ∧ (prN f u out).length ≤ f + 1 + out.length ∧ valN 10 (prN f u out) = u * 10 ^ out.length + valN 10 out
  | 0, u, out, h, ho => by
    have hu : u < 10 := by simpa using h
    have hd := dgt10 u hu
    simp only [prN, List.all_cons, List.length_cons, valN_cons, hd.1, hd.2, ho]
    refine ⟨rfl, by omega, by omega, trivial⟩
  | f + 1, u, out, h, ho => by
    unfold prN
    by_cases h10 : 10 ≤ u
    · rw [if_pos h10]
      have hd := dgt10 (u % 10) (Nat.mod_lt _ (by omega))
      have hu : u / 10 < 10 ^ (f + 1) := by
        rw [Nat.div_lt_iff_lt_mul (by omega)]; rw [Nat.pow_succ] at h; exact h
      obtain ⟨h1, h2, h3, h4⟩ := prN_tells f (u / 10) (dgt (u % 10) :: out) hu (by simp [hd.1, ho])
      refine ⟨h1, h2, by rw [List.length_cons] at h3; omega, ?_⟩
      rw [h4, valN_cons, hd.2, List.length_cons, Nat.pow_succ, Nat.mul_comm (10 ^ out.length) 10, ← Nat.mul_assoc, ← Nat.add_assoc, ← Nat.add_mul]
      congr 2
      omega
    · rw [if_neg h10]
      have hd := dgt10 u (by omega)
      simp only [List.all_cons, List.length_cons, valN_cons, hd.1, hd.2, ho]
      refine ⟨rfl, by omega, by omega, trivial⟩
theorem prL_tells (n : Nat) (h : n ≤ 9999999) : (prL n).all isD = true ∧ 1 ≤ (prL n).length ∧ (prL n).length ≤ 7 ∧ valN 10 (prL n) = n := by
  have e : prL n = prN 6 n [] := by
    have key : ∀ (f u : Nat) (out : List UInt8), u < 10 ^ (f + 1) → prN (f + 1) u out = prN f u out := by
      intro f
      induction f with
      | zero =>
        intro u out hu
        rw [prN_small 1 u out (by simpa using hu), prN_small 0 u out (by simpa using hu)]
      | succ f ih =>
        intro u out hu
        have hu2 : u / 10 < 10 ^ (f + 1) := by
          rw [Nat.div_lt_iff_lt_mul (by omega)]; rw [Nat.pow_succ] at hu; exact hu
        unfold prN
        by_cases h10 : 10 ≤ u
        · rw [if_pos h10, if_pos h10]; exact ih _ _ hu2
        · rw [if_neg h10, if_neg h10]
    exact key 6 n [] (by omega)
  rw [e]
  obtain ⟨h1, h2, h3, h4⟩ := prN_tells 6 n [] (by omega) rfl
  exact ⟨h1, h2, by simpa using h3, by simpa [valN] using h4⟩

set_option maxHeartbeats 800000 in
theorem refPrint_any (n : Nat) (hn : n ≤ 9999999) (w : World) :
    Calls Tryd.prog 37 #[.int .i64 n] w fun e w' => ∃ t : ByteArray, e = .returned (.string t) ∧ Hid (t.data.toList = prL n) ∧ w = w' := by
  have hn0 : ((n : Int) < 0) = False := by simp
  go_enter Tryd.func37, Tryd.ntmps37
  go_wp2
  go_loop [3, 4] (fun u out => ∃ (f U : Nat) (t : ByteArray), u = .int .u64 U ∧ out = .string t ∧ U ≤ 9999999 ∧ t.size + f ≤ 7 ∧ Hid (U < 10 ^ (f + 1)) ∧ Hid (prL n = prN f U t.data.toList)) (fun u _ => (intOf u).toNat)
  case atStart => exact ⟨7, n, ⟨#[]⟩, rfl, rfl, hn, Nat.le_refl _, hid (by omega), hid rfl⟩
  case round =>
    obtain ⟨f, U, t, rfl, rfl, hU, htz, hf, hp⟩ := hrel
    by_cases h10 : 10 ≤ U
    · obtain ⟨r, hr⟩ : ∃ r, U % 10 = r := ⟨_, rfl⟩
      obtain ⟨q, hq⟩ : ∃ q, U / 10 = q := ⟨_, rfl⟩
      have hr9 : r < 10 := by omega
      have hq9 : q < U := by omega
      have hr2 : (U : Int) % 10 = (r : Int) := by omega
      have hq2 : (U : Int) / 10 = (q : Int) := by omega
      have Hr := hid hr
      have Hq := hid hq
      have HT := hid (tab10 r hr9)
      have hez : (ByteArray.extract ⟨#[48, 49, 50, 51, 52, 53, 54, 55, 56, 57]⟩ r (r + 1)).size ≤ 1 := by rw [← len_data, HT.out]; exact Nat.le_refl _
      clear hr hq
      go_wp2
      go_round
      case rel =>
        have h2 := hf.out
        cases f with
        | zero => exfalso; omega
        | succ f =>
          refine ⟨f, q, _, rfl, rfl, by omega, by rw [ByteArray.size_append]; omega, hid ?_, hid ?_⟩
          · rw [← Hq.out, Nat.div_lt_iff_lt_mul (by omega)]; rw [Nat.pow_succ] at h2; exact h2
          · rw [hp.out, data_append, HT.out]
            rw [prN_more f U _ h10, Hr.out, Hq.out]
            rfl
      case measure => simp [intOf]; omega
    · have HT := hid (tab10 U (by omega))
      have hez : (ByteArray.extract ⟨#[48, 49, 50, 51, 52, 53, 54, 55, 56, 57]⟩ U (U + 1)).size ≤ 1 := by rw [← len_data, HT.out]; exact Nat.le_refl _
      go_wp2
      go_ret
      exact ⟨_, rfl, hid (by rw [data_append, HT.out, hp.out, prN_small f U _ (by omega)]; rfl), rfl⟩

/-- six hexadecimal digits of a number -/
def Hex6 (l : List UInt8) (n : Nat) : Prop := l.length = 6 ∧ l.all isH = true ∧ valN 16 l = n
set_option maxHeartbeats 800000 in
theorem refHex6_any (n : Nat) (hn : n ≤ 9999999) (w : World) :
    Calls Tryd.prog 38 #[.int .i64 n, .int .i64 6] w fun e w' => ∃ t : ByteArray, e = .returned (.string t) ∧ Hid (Hex6 t.data.toList n) ∧ w = w' := by
  go_enter Tryd.func38, Tryd.ntmps38
  go_wp2
  go_loop [5, 6, 7, 8] (fun u out i _d => ∃ (k U : Nat) (t : ByteArray), k ≤ 6 ∧ i = .int .i64 k ∧ u = .int .u64 U ∧ out = .string t ∧ U ≤ 9999999 ∧ Hid (t.data.toList.length = k ∧ t.data.toList.all isH = true ∧ U * 16 ^ k + valN 16 t.data.toList = n)) (fun _ _ i _ => 6 - (intOf i).toNat)
  case atStart => exact ⟨0, n, ⟨#[]⟩, by omega, rfl, rfl, rfl, hn, hid ⟨rfl, rfl, by simp [valN]⟩⟩
  case round =>
    obtain ⟨k, U, t, hk, rfl, rfl, rfl, hU, hp⟩ := hrel
    by_cases h6 : k < 6
    · obtain ⟨r, hr⟩ : ∃ r, U % 16 = r := ⟨_, rfl⟩
      obtain ⟨q, hq⟩ : ∃ q, U / 16 = q := ⟨_, rfl⟩
      have hr9 : r < 16 := by omega
      have hq9 : q ≤ U := by omega
      have hr2 : (U : Int) % 16 = (r : Int) := by omega
      have hq2 : (U : Int) / 16 = (q : Int) := by omega
      have HU : Hid (U = 16 * q + r) := hid (by omega)
      have HT := hid (tab16 r hr9)
      have hez : (ByteArray.extract ⟨#[48, 49, 50, 51, 52, 53, 54, 55, 56, 57, 97, 98, 99, 100, 101, 102]⟩ r (r + 1)).size ≤ 1 := by rw [← len_data, HT.out]; exact Nat.le_refl _
      have htz : t.size ≤ 6 := by rw [← len_data, hp.out.1]; omega
      have Hd := hid (dgt16 r hr9)
      clear hr hq
      go_wp2
      go_round
      case rel =>
        obtain ⟨p1, p2, p3⟩ := hp.out
        refine ⟨k + 1, q, _, by omega, by go_num, rfl, rfl, by omega, hid ?_⟩
        rw [data_append, HT.out]
        refine ⟨by rw [List.length_append, p1, List.length_singleton]; omega, by rw [List.all_append, p2]; simp [Hd.out.1], ?_⟩
        rw [List.singleton_append, valN_cons, Hd.out.2, p1, ← p3, HU.out, Nat.pow_succ, Nat.add_mul, Nat.mul_comm 16 q, Nat.mul_assoc, Nat.mul_comm 16]
        omega
      case measure => simp [intOf]; omega
    · obtain rfl : k = 6 := by omega
      go_wp2
      go_ret
      obtain ⟨p1, p2, p3⟩ := hp.out
      refine ⟨_, rfl, hid ⟨p1, p2, ?_⟩, rfl⟩
      omega

theorem chr_num (n : Nat) : chrOf n = if encOk (n : Int) = true ∧ n ≠ 0 then encL (n : Int) else [239, 191, 189] := by
  unfold chrOf encL
  by_cases h : encOk (n : Int) = true ∧ n ≠ 0
  · rw [if_pos h, if_pos h, if_pos h.1]
  · rw [if_neg h, if_neg h]
theorem one_dec (n : Nat) (h : n ≤ 9999999) : oneR ([38, 35] ++ prL n ++ [59, 120]) = (chrOf n, (prL n).length + 3) := by
  obtain ⟨h1, h2, h3, h4⟩ := prL_tells n h
  have hm : Mtch (38 :: 35 :: ([] ++ prL n ++ [59])) (chrOf n) := .inr ⟨false, [], prL n, .inr ⟨rfl, rfl⟩, h2, h3, h1, rfl, by rw [show baseN false = 10 from rfl, h4]⟩
  have := mtch_one _ _ [120] hm
  simp only [List.nil_append, List.cons_append, List.append_assoc, List.length_cons, List.length_append, List.length_nil] at this ⊢
  rw [this]
theorem one_hex (n : Nat) (t : List UInt8) (h : t.length = 6 ∧ t.all isH = true ∧ valN 16 t = n) : oneR ([38, 35, 120] ++ t ++ [59]) = (chrOf n, 10) := by
  obtain ⟨h1, h2, h3⟩ := h
  have hm : Mtch (38 :: 35 :: ([120] ++ t ++ [59])) (chrOf n) := .inr ⟨true, [120], t, .inl ⟨rfl, .inl rfl⟩, by omega, by omega, h2, rfl, by rw [show baseN true = 16 from rfl, h3]⟩
  have := mtch_one _ _ [] hm
  simp only [List.nil_append, List.cons_append, List.length_cons, List.length_append, List.length_nil, List.append_nil, h1] at this ⊢
  exact this

theorem refPrintI_any (c : Int) (h0 : 0 ≤ c) (h1 : c ≤ 9999999) (w : World) :
    Calls Tryd.prog 37 #[.int .i64 c] w fun e w' => ∃ t : ByteArray, e = .returned (.string t) ∧ Hid (t.data.toList = prL c.toNat) ∧ w = w' := by
  obtain ⟨n, rfl⟩ : ∃ n : Nat, c = (n : Int) := ⟨c.toNat, by omega⟩
  exact refPrint_any n (by omega) w
theorem refHexI_any (c : Int) (h0 : 0 ≤ c) (h1 : c ≤ 9999999) (w : World) :
    Calls Tryd.prog 38 #[.int .i64 c, .int .i64 6] w fun e w' => ∃ t : ByteArray, e = .returned (.string t) ∧ Hid (Hex6 t.data.toList c.toNat) ∧ w = w' := by
  obtain ⟨n, rfl⟩ : ∃ n : Nat, c = (n : Int) := ⟨c.toNat, by omega⟩
  exact refHex6_any n (by omega) w

set_option maxRecDepth 100000 in
set_option maxHeartbeats 3200000 in
theorem refsNumbers_any (c : Int) (w : World) (hc0 : -9223372036854775808 ≤ c) (hc1 : c ≤ 9223372036854775807) (hT : TabsAt w) :
    Calls Tryd.prog 9 #[.int .i64 c] w fun e w' => e = .returned (.bool true) ∧ Below w.heap.size w w' := by
  have HT := hid hT
  clear hT
  have hE : (encL c = [] ∧ encE c = 4 ∧ encOk c = false) ∨ (encE c = 0 ∧ encOk c = true) := by
    unfold encL encE
    cases encOk c <;> simp
  have Hl := hid hE
  go_enter Tryd.func9, Tryd.ntmps9
  go_wp2_with fail
  refine (alive06_any _ HT.out).mono ?_
  rintro e w1 ⟨rfl, hb1⟩
  go_wp2_with fail
  refine (refEncode_any c hc0 hc1 _).mono ?_
  rintro e w2 ⟨s1, e1, rfl, hs1, he1, hb2⟩
  have hbb2 := after hb1 hb2 hb1.size
  have hA : (e1 = 0 ∧ c ≠ 0 ∧ Hid (0 ≤ c → s1.data.toList = chrOf c.toNat)) ∨ ((e1 = 4 ∨ (e1 = 0 ∧ c = 0)) ∧ Hid (0 ≤ c → chrOf c.toNat = [239, 191, 189])) := by
    rcases hE with ⟨h1, h2, h3⟩ | ⟨h2, h3⟩
    · right
      refine ⟨.inl (by rw [he1.out, h2]), hid (fun h => ?_)⟩
      rw [chr_num, if_neg (by rw [Int.toNat_of_nonneg h, h3]; simp)]
    · by_cases hc : c = 0
      · right
        refine ⟨.inr ⟨by rw [he1.out, h2], hc⟩, hid (fun h => ?_)⟩
        rw [chr_num, if_neg (by rw [hc]; simp)]
      · left
        refine ⟨by rw [he1.out, h2], hc, hid (fun h => ?_)⟩
        rw [hs1.out, chr_num, Int.toNat_of_nonneg h, if_pos ⟨h3, by omega⟩]
  clear hE Hl hs1 he1
  have rest : True := trivial
  rcases hA with ⟨rfl, hcn, hs⟩ | ⟨hor, hs⟩
  · have hcn2 : (c == 0) = false := beq_eq_false_iff_ne.2 hcn
    by_cases hr : 0 ≤ c ∧ c ≤ 9999999
    · obtain ⟨hr0, hr1⟩ := hr
      obtain ⟨n, hcn'⟩ : ∃ n : Nat, c.toNat = n := ⟨_, rfl⟩
      have hn : n ≤ 9999999 := by omega
      have Hcn := hid hcn'
      have hsl := hid (hs.out hr0)
      rw [hcn'] at hsl
      clear hcn'
      have hone := hid (one_dec n hn)
      have hpl := prL_tells n hn
      have hp7 : (prL n).length ≤ 7 := hpl.2.2.1
      clear hpl hs
      go_wp2_with fail
      refine (refPrintI_any c hr0 hr1 _).mono ?_
      rintro e w3 ⟨p, rfl, hp, rfl⟩
      rw [Hcn.out] at hp
      have hpz : p.size ≤ 7 := by rw [← len_data, hp.out]; exact hp7
      go_wp2_with fail
      refine (one_any _ _ (by rw [ByteArray.size_append, ByteArray.size_append]; have h1 : ByteArray.size ⟨#[38, 35]⟩ = 2 := rfl; have h2 : ByteArray.size ⟨#[59, 120]⟩ = 2 := rfl; omega)).mono ?_
      rintro e w3 ⟨a, k, rfl, ha, hk, hb3⟩
      have hbb3 := after hbb2 hb3 hbb2.size
      go_wp2_with fail
      refine (refHexI_any c hr0 hr1 _).mono ?_
      rintro e w4 ⟨x, rfl, hx, rfl⟩
      rw [Hcn.out] at hx
      have hxz : x.size ≤ 6 := by rw [← len_data, hx.out.1]; omega
      go_wp2_with fail
      refine (one_any _ _ (by rw [ByteArray.size_append, ByteArray.size_append]; have h1 : ByteArray.size ⟨#[38, 35, 120]⟩ = 3 := rfl; have h2 : ByteArray.size ⟨#[59]⟩ = 1 := rfl; omega)).mono ?_
      rintro e w4 ⟨b, m, rfl, hb, hm, hb4⟩
      have hbb4 := after hbb3 hb4 hbb3.size
      have e1 : (⟨#[38, 35]⟩ ++ p ++ ⟨#[59, 120]⟩ : ByteArray).data.toList = [38, 35] ++ prL n ++ [59, 120] := by rw [data_append, data_append, hp.out]
      have e2 : (⟨#[38, 35, 120]⟩ ++ x ++ ⟨#[59]⟩ : ByteArray).data.toList = [38, 35, 120] ++ x.data.toList ++ [59] := by rw [data_append, data_append]
      have ha2 := ha.out
      have hk2 := hk.out
      have hb2' := hb.out
      have hm2 := hm.out
      rw [e1, hone.out] at ha2 hk2
      rw [e2, one_hex n _ hx.out] at hb2' hm2
      obtain rfl : a = s1 := bytes_eq (by rw [ha2, hsl.out])
      obtain rfl : b = a := bytes_eq (by rw [hb2', hsl.out])
      have hm10 : (m == 10) = true := beq_iff_eq.2 hm2
      have hss := str_self b
      have Hk := hid hk2
      clear ha hk hb hm ha2 hk2 hb2' hm2 e1 e2
      go_wp2_with fail
      refine (refPrintI_any c hr0 hr1 _).mono ?_
      rintro e w5 ⟨p2, rfl, hp2, rfl⟩
      rw [Hcn.out] at hp2
      have hpz2 : p2.size ≤ 7 := by rw [← len_data, hp2.out]; exact hp7
      have hkq : k = (p2.size : Int) + 3 := by rw [Hk.out, ← len_data, hp2.out]; simp
      obtain ⟨q, hq⟩ : ∃ q : Int, (p2.size : Int) = q := ⟨_, rfl⟩
      rw [hq] at hkq
      have hq0 : 0 ≤ q ∧ q ≤ 7 := by omega
      obtain ⟨hq0, hq7⟩ := hq0
      subst hkq
      go_wp2
      go_ret
      exact ⟨by simp, hbb4⟩
    · by_cases hneg : c < 0
      · go_wp2
        go_ret
        exact ⟨by first | rfl | simp, hbb2⟩
      · have hbig : 9999999 < c := by omega
        go_wp2
        go_ret
        exact ⟨by first | rfl | simp, hbb2⟩
  · by_cases hr : 0 ≤ c ∧ c ≤ 9999999
    · obtain ⟨hr0, hr1⟩ := hr
      obtain ⟨n, hcn'⟩ : ∃ n : Nat, c.toNat = n := ⟨_, rfl⟩
      have hn : n ≤ 9999999 := by omega
      have Hcn := hid hcn'
      have hsl := hid (hs.out hr0)
      rw [hcn'] at hsl
      clear hcn'
      have hone := hid (one_dec n hn)
      have hpl := prL_tells n hn
      have hp7 : (prL n).length ≤ 7 := hpl.2.2.1
      have hE2 : encL 65533 = [239, 191, 189] := by decide
      have HE2 := hid hE2
      clear hpl hs hE2
      have go : ∀ (P : Prop), P → P := fun _ h => h
      rcases hor with rfl | ⟨rfl, hcz⟩
      · go_wp2_with fail
        refine (refEncode_any 65533 (by omega) (by omega) _).mono ?_
        rintro e w2e ⟨s2, e2, rfl, hs2, he2, hbE⟩
        have hbbE := after hbb2 hbE hbb2.size
        clear he2
        go_wp2_with fail
        refine (refPrintI_any c hr0 hr1 _).mono ?_
        rintro e w3 ⟨p, rfl, hp, rfl⟩
        rw [Hcn.out] at hp
        have hpz : p.size ≤ 7 := by rw [← len_data, hp.out]; exact hp7
        go_wp2_with fail
        refine (one_any _ _ (by rw [ByteArray.size_append, ByteArray.size_append]; have h1 : ByteArray.size ⟨#[38, 35]⟩ = 2 := rfl; have h2 : ByteArray.size ⟨#[59, 120]⟩ = 2 := rfl; omega)).mono ?_
        rintro e w3 ⟨a, k, rfl, ha, hk, hb3⟩
        have hbb3 := after hbbE hb3 hbbE.size
        go_wp2_with fail
        refine (refHexI_any c hr0 hr1 _).mono ?_
        rintro e w4 ⟨x, rfl, hx, rfl⟩
        rw [Hcn.out] at hx
        have hxz : x.size ≤ 6 := by rw [← len_data, hx.out.1]; omega
        go_wp2_with fail
        refine (one_any _ _ (by rw [ByteArray.size_append, ByteArray.size_append]; have h1 : ByteArray.size ⟨#[38, 35, 120]⟩ = 3 := rfl; have h2 : ByteArray.size ⟨#[59]⟩ = 1 := rfl; omega)).mono ?_
        rintro e w4 ⟨b, m, rfl, hb, hm, hb4⟩
        have hbb4 := after hbb3 hb4 hbb3.size
        have e1 : (⟨#[38, 35]⟩ ++ p ++ ⟨#[59, 120]⟩ : ByteArray).data.toList = [38, 35] ++ prL n ++ [59, 120] := by rw [data_append, data_append, hp.out]
        have e2 : (⟨#[38, 35, 120]⟩ ++ x ++ ⟨#[59]⟩ : ByteArray).data.toList = [38, 35, 120] ++ x.data.toList ++ [59] := by rw [data_append, data_append]
        have ha2 := ha.out
        have hk2 := hk.out
        have hb2' := hb.out
        have hm2 := hm.out
        rw [e1, hone.out] at ha2 hk2
        rw [e2, one_hex n _ hx.out] at hb2' hm2
        obtain rfl : a = s2 := bytes_eq (by rw [ha2, hs2.out, HE2.out, hsl.out])
        obtain rfl : b = a := bytes_eq (by rw [hb2', hs2.out, HE2.out, hsl.out])
        have hm10 : (m == 10) = true := beq_iff_eq.2 hm2
        have hss := str_self b
        have Hk := hid hk2
        clear ha hk hb hm ha2 hk2 hb2' hm2 e1 e2
        go_wp2_with fail
        refine (refPrintI_any c hr0 hr1 _).mono ?_
        rintro e w5 ⟨p2, rfl, hp2, rfl⟩
        rw [Hcn.out] at hp2
        have hpz2 : p2.size ≤ 7 := by rw [← len_data, hp2.out]; exact hp7
        have hkq : k = (p2.size : Int) + 3 := by rw [Hk.out, ← len_data, hp2.out]; simp
        obtain ⟨q, hq⟩ : ∃ q : Int, (p2.size : Int) = q := ⟨_, rfl⟩
        rw [hq] at hkq
        have hq0 : 0 ≤ q ∧ q ≤ 7 := by omega
        obtain ⟨hq0, hq7⟩ := hq0
        subst hkq
        go_wp2
        go_ret
        exact ⟨by simp, hbb4⟩
      · have hcz2 : (c == 0) = true := beq_iff_eq.2 hcz
        clear hcz
        go_wp2_with fail
        refine (refEncode_any 65533 (by omega) (by omega) _).mono ?_
        rintro e w2e ⟨s2, e2, rfl, hs2, he2, hbE⟩
        have hbbE := after hbb2 hbE hbb2.size
        clear he2
        go_wp2_with fail
        refine (refPrintI_any c hr0 hr1 _).mono ?_
        rintro e w3 ⟨p, rfl, hp, rfl⟩
        rw [Hcn.out] at hp
        have hpz : p.size ≤ 7 := by rw [← len_data, hp.out]; exact hp7
        go_wp2_with fail
        refine (one_any _ _ (by rw [ByteArray.size_append, ByteArray.size_append]; have h1 : ByteArray.size ⟨#[38, 35]⟩ = 2 := rfl; have h2 : ByteArray.size ⟨#[59, 120]⟩ = 2 := rfl; omega)).mono ?_
        rintro e w3 ⟨a, k, rfl, ha, hk, hb3⟩
        have hbb3 := after hbbE hb3 hbbE.size
        go_wp2_with fail
        refine (refHexI_any c hr0 hr1 _).mono ?_
        rintro e w4 ⟨x, rfl, hx, rfl⟩
        rw [Hcn.out] at hx
        have hxz : x.size ≤ 6 := by rw [← len_data, hx.out.1]; omega
        go_wp2_with fail
        refine (one_any _ _ (by rw [ByteArray.size_append, ByteArray.size_append]; have h1 : ByteArray.size ⟨#[38, 35, 120]⟩ = 3 := rfl; have h2 : ByteArray.size ⟨#[59]⟩ = 1 := rfl; omega)).mono ?_
        rintro e w4 ⟨b, m, rfl, hb, hm, hb4⟩
        have hbb4 := after hbb3 hb4 hbb3.size
        have e1 : (⟨#[38, 35]⟩ ++ p ++ ⟨#[59, 120]⟩ : ByteArray).data.toList = [38, 35] ++ prL n ++ [59, 120] := by rw [data_append, data_append, hp.out]
        have e2 : (⟨#[38, 35, 120]⟩ ++ x ++ ⟨#[59]⟩ : ByteArray).data.toList = [38, 35, 120] ++ x.data.toList ++ [59] := by rw [data_append, data_append]
        have ha2 := ha.out
        have hk2 := hk.out
        have hb2' := hb.out
        have hm2 := hm.out
        rw [e1, hone.out] at ha2 hk2
        rw [e2, one_hex n _ hx.out] at hb2' hm2
        obtain rfl : a = s2 := bytes_eq (by rw [ha2, hs2.out, HE2.out, hsl.out])
        obtain rfl : b = a := bytes_eq (by rw [hb2', hs2.out, HE2.out, hsl.out])
        have hm10 : (m == 10) = true := beq_iff_eq.2 hm2
        have hss := str_self b
        have Hk := hid hk2
        clear ha hk hb hm ha2 hk2 hb2' hm2 e1 e2
        go_wp2_with fail
        refine (refPrintI_any c hr0 hr1 _).mono ?_
        rintro e w5 ⟨p2, rfl, hp2, rfl⟩
        rw [Hcn.out] at hp2
        have hpz2 : p2.size ≤ 7 := by rw [← len_data, hp2.out]; exact hp7
        have hkq : k = (p2.size : Int) + 3 := by rw [Hk.out, ← len_data, hp2.out]; simp
        obtain ⟨q, hq⟩ : ∃ q : Int, (p2.size : Int) = q := ⟨_, rfl⟩
        rw [hq] at hkq
        have hq0 : 0 ≤ q ∧ q ≤ 7 := by omega
        obtain ⟨hq0, hq7⟩ := hq0
        subst hkq
        go_wp2
        go_ret
        exact ⟨by simp, hbb4⟩
    · rcases hor with rfl | ⟨rfl, rfl⟩
      · by_cases hneg : c < 0
        · go_wp2_with fail
          refine (refEncode_any 65533 (by omega) (by omega) _).mono ?_
          rintro e w3 ⟨s2, e2, rfl, hs2, he2, hb3⟩
          have hbb3 := after hbb2 hb3 hbb2.size
          go_wp2
          go_ret
          exact ⟨by first | rfl | simp, hbb3⟩
        · have hbig : 9999999 < c := by omega
          go_wp2_with fail
          refine (refEncode_any 65533 (by omega) (by omega) _).mono ?_
          rintro e w3 ⟨s2, e2, rfl, hs2, he2, hb3⟩
          have hbb3 := after hbb2 hb3 hbb2.size
          go_wp2
          go_ret
          exact ⟨by first | rfl | simp, hbb3⟩
      · exact absurd ⟨by omega, by omega⟩ hr
end Go.Proofs.YtihgmgpcdodknaaDoor
