/- Package refs: Unhex (of digits), named, parts, numeric, value. -/
import Derived.Test.YtihgmgpcdodknaaDoorTokP
import Derived.Test.YtihgmgpcdodknaaDoorOct
import Derived.Test.YtihgmgpcdodknaaDoorUtf
set_option linter.unusedVariables false
namespace Go.Proofs.YtihgmgpcdodknaaDoor
open Go.RowKit

theorem byte_all {p : UInt8 → Int → Prop} (h : ∀ k : Fin 256, p (UInt8.ofNat k.val) (k.val : Int)) (n : Int) (h0 : 0 ≤ n) (h1 : n ≤ 255) : p (bOf n) n := by
  have := h ⟨n.toNat, by omega⟩
  have e : ((n.toNat : Nat) : Int) = n := by omega
  simp only [e] at this
  exact this
def hexDigits : List UInt8 := [48, 49, 50, 51, 52, 53, 54, 55, 56, 57, 97, 98, 99, 100, 101, 102]
theorem hex_at (n : Int) (h0 : 0 ≤ n) (h1 : n ≤ 255) : Lib.indexByte hexDigits (((lowB (bOf n)).toNat : Int)).toNat.toUInt8 = if isH (bOf n) then (dval (bOf n) : Int) else -1 :=
  byte_all (p := fun c _ => Lib.indexByte hexDigits ((lowB c).toNat : Int).toNat.toUInt8 = if isH c then (dval c : Int) else -1) (by decide +kernel) n h0 h1
theorem dval_lt (c : UInt8) (h : isH c = true) : dval c < 16 := by
  have := byte_all (p := fun c _ => isH c = true → dval c < 16) (by decide +kernel) (c.toNat : Int) (by omega) (by have := c.toNat_lt; omega)
  rw [bOf_cast] at this
  exact this h
theorem valN_lt (base : Nat) (hb : base ≤ 16) : ∀ (n : Nat) (l : List UInt8), l.length = n → (∀ c ∈ l, dval c < 16) → valN base l < 16 ^ n * 2
  | 0, l, e, _ => by
    obtain rfl := List.eq_nil_of_length_eq_zero e
    simp [valN]
  | n + 1, l, e, h => by
    have hne : l ≠ [] := by intro h; rw [h] at e; simp at e
    obtain ⟨l', c, rfl⟩ : ∃ l' c, l = l' ++ [c] := ⟨l.dropLast, l.getLast hne, (List.dropLast_concat_getLast hne).symm⟩
    have h1 := valN_lt base hb n l' (by simpa using e) (fun d hd => h d (by simp [hd]))
    have h2 := h c (by simp)
    rw [valN_snoc, Nat.pow_succ]
    have h3 : valN base l' * base ≤ valN base l' * 16 := Nat.mul_le_mul_left _ hb
    omega
theorem or_four (x y : Int) (h0 : 0 ≤ x) (h1 : x < 536870912) (h2 : 0 ≤ y) (h3 : y < 16) : bits .or .i64 (x * 16) y = x * 16 + y :=
  bits_join .i64 62 (by decide) (fun n h0 h1 => by rw [IntKind.wrap_i64]; omega) 4 (x * 16) y (by omega) (by omega) (by omega) h2 (by omega) (by omega)

set_option maxRecDepth 100000 in
set_option maxHeartbeats 800000 in
theorem unhex_any (s : ByteArray) (w : World) (h1 : 1 ≤ s.size) (h2 : s.size ≤ 7) (hd : s.data.toList.all isH = true) :
    Calls Tryd.prog 92 #[.string s] w fun e w' => e = .returned (.tuple #[.int .i64 (valN 16 s.data.toList), .int .i64 0]) ∧ Below w.heap.size w w' := by
  have kc := fun (w : World) (s : ByteArray) => run_bytes_of_string (P := Tryd.prog) w 9 49 5 s Tryd.underlying9 Tryd.underlying49 Tryd.underlying5
  have Hlen := hid (len_data s)
  have Hd := hid hd
  have hemp : s.toList.isEmpty = false := by
    rw [ByteArray.toList_eq]
    cases e : s.data.toList with
    | nil => have := len_data s; rw [e] at this; simp at this; omega
    | cons a t => rfl
  clear hd
  go_enter Tryd.func92, Tryd.ntmps92
  go_wp2
  go_loopw [4, 18] (fun q i wr => ∃ k : Nat, ∃ v : Int, k ≤ s.size ∧ i = .int .i64 k ∧ q = .int .i64 v ∧ Hid (v = valN 16 (s.data.toList.take k)) ∧ 0 ≤ v ∧ v < 536870912 ∧ BytesIn wr w.heap.size s.data.toList ∧ Below w.heap.size w wr) (fun _ i _ => s.size - (intOf i).toNat)
  case atStart => exact ⟨0, 0, Nat.zero_le _, rfl, rfl, hid rfl, by omega, by omega, (BytesIn.new w s _ _ _).drew, by go_grown⟩
  case round =>
    obtain ⟨k, v, hk, rfl, rfl, hv, hv0, hv1, hB, hb⟩ := hrel
    have HB := hid hB
    clear hB
    by_cases hlt : k < s.size
    · have hkl : k < s.data.toList.length := by rw [Hlen.out]; exact hlt
      have hc0 := HB.out k hkl
      obtain ⟨c, hc⟩ : ∃ c, s.data.toList[k] = c := ⟨_, rfl⟩
      rw [hc] at hc0
      have hcb : (c.toNat : Int) ≤ 255 := by have := c.toNat_lt; omega
      have hH : isH c = true := List.all_eq_true.1 Hd.out c (by rw [← hc]; exact List.getElem_mem _)
      have hix0 := hex_at (c.toNat : Int) (by omega) hcb
      rw [bOf_cast, hH, if_pos rfl] at hix0
      have hdl := dval_lt c hH
      obtain ⟨n, hn⟩ : ∃ n : Int, (c.toNat : Int) = n := ⟨_, rfl⟩
      obtain ⟨d, hdd⟩ : ∃ d : Int, (dval c : Int) = d := ⟨_, rfl⟩
      have hsm := small_any n (by omega) (by omega)
      have hn2 : bOf n = c := by rw [← hn, bOf_cast]
      rw [hn2] at hsm
      obtain ⟨m, hm⟩ : ∃ m : Int, ((lowB c).toNat : Int) = m := ⟨_, rfl⟩
      rw [hm] at hsm hix0
      rw [hdd] at hix0
      rw [hn] at hc0
      have Hsm := hid hsm
      have hix := fun w => Tryd.strings_IndexByte ⟨#[48, 49, 50, 51, 52, 53, 54, 55, 56, 57, 97, 98, 99, 100, 101, 102]⟩ m w
      have e0 : Lib.indexByte (⟨#[48, 49, 50, 51, 52, 53, 54, 55, 56, 57, 97, 98, 99, 100, 101, 102]⟩ : ByteArray).data.toList m.toNat.toUInt8 = d := hix0
      rw [e0] at hix
      have Hix := hid hix
      have Hst : Hid (((valN 16 (s.data.toList.take (k + 1)) : Nat) : Int) = v * 16 + d) := hid (by
        rw [take_one _ k hkl, valN_snoc, hc, ← hdd, hv.out]; push_cast; rfl)
      have hd0 : 0 ≤ d ∧ d < 16 := by omega
      have HvB : Hid (k + 1 ≤ 7 → v * 16 + d < 536870912) := hid (fun _ => by
        have hall : ∀ c ∈ s.data.toList.take (k + 1), dval c < 16 := fun c hc => dval_lt c (List.all_eq_true.1 Hd.out c (List.mem_of_mem_take hc))
        have hl : (s.data.toList.take (k + 1)).length = k + 1 := by rw [List.length_take, Hlen.out]; omega
        have := valN_lt 16 (by omega) (k + 1) _ hl hall
        have h7 : 16 ^ (k + 1) ≤ 16 ^ 7 := Nat.pow_le_pow_right (by omega) (by omega)
        have := Hst.out
        omega)
      clear hsm hix hix0 e0 hm hn hn2 hc hdd hH hdl hcb
      go_wp2_with (first | (go_at_call 108; refine (Hsm.out _).mono ?_; rintro e w1 ⟨rfl, rfl⟩) | (go_at_call 67; refine (Hix.out _).mono ?_; rintro e w1 ⟨rfl, hw⟩; obtain rfl := hw.symm))
      rw [or_four v d hv0 hv1 hd0.1 hd0.2]
      refine ⟨⟨k + 1, v * 16 + d, by omega, by go_num, rfl, hid Hst.out.symm, by omega, HvB.out (by omega), HB.out, hb⟩, ?_⟩
      simp [intOf]; omega
    · obtain rfl : k = s.size := by omega
      have hv' := hv.out
      rw [take_all] at hv'
      subst hv'
      go_wp2
      go_ret2
      exact ⟨rfl, hb⟩

/-- the named ones, by their names -/
def nameB (l : List UInt8) : List UInt8 × Bool := if l = [97, 109, 112] then ([38], true) else if l = [108, 116] then ([60], true) else if l = [103, 116] then ([62], true) else if l = [113, 117, 111, 116] then ([34], true) else if l = [97, 112, 111, 115] then ([39], true) else ([], false)
theorem toList_is (s : ByteArray) (l : List UInt8) : (s.toList == l) = decide (s.data.toList = l) := by
  rw [ByteArray.toList_eq, Bool.eq_iff_iff, beq_iff_eq, decide_eq_true_iff]
set_option maxHeartbeats 800000 in
theorem named_any (s : ByteArray) (w : World) :
    Calls Tryd.prog 68 #[.string s] w fun e w' => ∃ (t : ByteArray) (b : Bool), e = .returned (.tuple #[.string t, .bool b]) ∧ Hid ((t.data.toList, b) = nameB s.data.toList) ∧ w = w' := by
  have HE := hid (ByteArray.toList_eq s)
  go_enter Tryd.func68, Tryd.ntmps68
  go_wp2
  all_goals go_ret2
  all_goals rw [HE.out] at *
  all_goals simp only [beq_iff_eq, beq_eq_false_iff_ne, ne_eq] at *
  all_goals exact ⟨_, _, rfl, hid (by unfold nameB; simp [*]), trivial⟩
/-- the digits, whether they are hexadecimal ones, whether it is a number at all -/
def partL (l : List UInt8) : List UInt8 × Bool × Bool :=
  match l with
  | 35 :: c :: t => if isX c then (t, true, true) else (c :: t, false, true)
  | [35] => ([], false, true)
  | l => (l, false, false)
theorem isX_int (n : Int) (h0 : 0 ≤ n) (h1 : n ≤ 255) : isX (bOf n) = (bits BinOp.or IntKind.u8 n 32 == 120) :=
  byte_all (p := fun c n => isX c = (bits BinOp.or IntKind.u8 n 32 == 120)) (by decide +kernel) n h0 h1
/-- strings.CutPrefix of one octet -/
theorem cut_any (s : ByteArray) (c : UInt8) (w : World) : Calls Tryd.prog 72 #[.string s, .string ⟨#[c]⟩] w fun e w' => ∃ (t : ByteArray) (b : Bool), e = .returned (.tuple #[.string t, .bool b]) ∧ Hid (b = true → s.data.toList = c :: t.data.toList) ∧ Hid (b = false → t.data.toList = s.data.toList ∧ ∀ u, s.data.toList ≠ c :: u) ∧ w = w' := by
  refine (Tryd.strings_CutPrefix _ _ _).mono ?_
  rintro e w1 ⟨rfl, rfl⟩
  refine ⟨_, _, rfl, hid ?_, hid ?_, rfl⟩
  · intro h
    have e1 : (⟨#[c]⟩ : ByteArray).data.toList = [c] := rfl
    rw [e1] at h ⊢
    cases hs : s.data.toList with
    | nil => rw [hs] at h; simp [Lib.hasPrefix] at h
    | cons a t =>
      rw [hs] at h
      simp [Lib.hasPrefix] at h
      subst h
      simp [Lib.trimPrefix, Lib.hasPrefix]
  · intro h
    have e1 : (⟨#[c]⟩ : ByteArray).data.toList = [c] := rfl
    rw [e1] at h ⊢
    refine ⟨by unfold Lib.trimPrefix; rw [h]; simp, fun u e => ?_⟩
    rw [e] at h
    simp [Lib.hasPrefix] at h
set_option maxRecDepth 100000 in
set_option maxHeartbeats 800000 in
theorem parts_any (s : ByteArray) (w : World) (hs : s.size ≤ 1099511627776) :
    Calls Tryd.prog 69 #[.string s] w fun e w' => ∃ (t : ByteArray) (a b : Bool), e = .returned (.tuple #[.string t, .bool a, .bool b]) ∧ Hid ((t.data.toList, a, b) = partL s.data.toList) ∧ w = w' := by
  have Hlen := hid (len_data s)
  go_enter Tryd.func69, Tryd.ntmps69
  go_wp2_with fail
  refine (cut_any s 35 _).mono ?_
  rintro e w1 ⟨t, b, rfl, ht, hf, rfl⟩
  have Hlt := hid (len_data t)
  cases b with
  | false =>
    have hF := hf.out rfl
    have HF := hid hF
    clear hF
    go_wp2
    go_ret3
    refine ⟨t, _, _, rfl, hid ?_, rfl⟩
    rw [HF.out.1]
    have := HF.out.2
    unfold partL
    split
    · rename_i e; exact absurd e (this _)
    · rename_i e; exact absurd e (this _)
    · rfl
  | true =>
    have HE := hid (ht.out rfl)
    by_cases h0 : t.size = 0
    · obtain rfl : t = ⟨#[]⟩ := by
        have : t.data = #[] := Array.eq_empty_of_size_eq_zero h0
        cases t; simp_all
      go_wp2
      go_ret3
      exact ⟨⟨#[]⟩, _, _, rfl, hid (by rw [HE.out]; rfl), rfl⟩
    · have hpos : 0 < t.size := by omega
      obtain ⟨c, u, hcu⟩ : ∃ c u, t.data.toList = c :: u := by
        cases e : t.data.toList with
        | nil => have := Hlt.out; rw [e] at this; exact absurd this.symm h0
        | cons c u => exact ⟨c, u, rfl⟩
      have hemp : t.toList.isEmpty = false := by rw [ByteArray.toList_eq, hcu]; rfl
      have hc : t[0]'hpos = c := by rw [← data_get t 0 hpos (by rw [len_data]; exact hpos)]; simp [hcu]
      obtain ⟨n, hn⟩ : ∃ n : Int, (c.toNat : Int) = n := ⟨_, rfl⟩
      have hn0 : 0 ≤ n ∧ n ≤ 255 := by have := c.toNat_lt; omega
      have hx := isX_int n hn0.1 hn0.2
      rw [← hn, bOf_cast, hn] at hx
      have hst : t.size ≤ 1099511627776 := by
        have := congrArg List.length HE.out
        rw [Hlen.out, List.length_cons, Hlt.out] at this
        omega
      obtain ⟨q, hq⟩ : ∃ q, (bits BinOp.or IntKind.u8 n 32 == 120) = q := ⟨_, rfl⟩
      have Hx := hid (hx.trans hq)
      have Hcu := hid hcu
      have hec : Hid ((t.extract 1 t.size).data.toList = u) := hid (by rw [data_extract, List.take_of_length_le (by rw [len_data]; exact Nat.le_refl _), hcu]; rfl)
      clear hx hcu
      cases q with
      | false =>
        go_wp2
        go_ret3
        refine ⟨t, _, _, rfl, hid ?_, rfl⟩
        rw [HE.out, Hcu.out]; simp only [partL]; rw [Hx.out]; rfl
      | true =>
        go_wp2
        go_ret3
        refine ⟨_, _, _, rfl, hid ?_, rfl⟩
        rw [HE.out, Hcu.out, hec.out]; simp only [partL]; rw [Hx.out]; rfl

theorem dig_in (hex : Bool) (n : Int) (h0 : 0 ≤ n) (h1 : n ≤ 255) : (Lib.indexByte (if hex then [48, 49, 50, 51, 52, 53, 54, 55, 56, 57, 97, 98, 99, 100, 101, 102, 65, 66, 67, 68, 69, 70] else [48, 49, 50, 51, 52, 53, 54, 55, 56, 57]) n.toNat.toUInt8 < 0) = (digP hex (bOf n) = false) := by
  cases hex
  · exact propext (byte_all (p := fun c n => Lib.indexByte [48, 49, 50, 51, 52, 53, 54, 55, 56, 57] n.toNat.toUInt8 < 0 ↔ digP false c = false) (by decide +kernel) n h0 h1)
  · exact propext (byte_all (p := fun c n => Lib.indexByte [48, 49, 50, 51, 52, 53, 54, 55, 56, 57, 97, 98, 99, 100, 101, 102, 65, 66, 67, 68, 69, 70] n.toNat.toUInt8 < 0 ↔ digP true c = false) (by decide +kernel) n h0 h1)
def numericL (l : List UInt8) (hex : Bool) : Bool := l.all (digP hex) && decide (l.length ≤ 7)
theorem all_snoc (p : UInt8 → Bool) (l : List UInt8) (c : UInt8) : (l ++ [c]).all p = (l.all p && p c) := by simp
set_option maxRecDepth 100000 in
set_option maxHeartbeats 800000 in
theorem numeric_any (s : ByteArray) (hex : Bool) (w : World) (hs : s.size ≤ 1099511627776) :
    Calls Tryd.prog 70 #[.string s, .bool hex] w fun e w' => ∃ b : Bool, e = .returned (.bool b) ∧ Hid (b = numericL s.data.toList hex) ∧ w = w' := by
  have Hlen := hid (len_data s)
  cases hex
  case false =>
    go_enter Tryd.func70, Tryd.ntmps70
    go_wp2
    go_loopw [10] (fun i wr => ∃ k : Nat, k ≤ s.size ∧ i = .int .i64 k ∧ Hid ((s.data.toList.take k).all (digP false) = true) ∧ wr = w) (fun i _ => s.size - (intOf i).toNat)
    case atStart => exact ⟨0, Nat.zero_le _, rfl, hid (by simp), rfl⟩
    case round =>
      obtain ⟨k, hk, rfl, hr, rfl⟩ := hrel
      by_cases hlt : k < s.size
      · have hkl : k < s.data.toList.length := by rw [Hlen.out]; exact hlt
        obtain ⟨x, hx⟩ : ∃ x, s[k]'hlt = x := ⟨_, rfl⟩
        have Hx := hid hx
        obtain ⟨n, hn⟩ : ∃ n : Int, (x.toNat : Int) = n := ⟨_, rfl⟩
        have hn0 : 0 ≤ n ∧ n ≤ 255 := by have := x.toNat_lt; omega
        have hd := dig_in false n hn0.1 hn0.2
        rw [← hn, bOf_cast, hn] at hd
        have hix := fun w => Tryd.strings_IndexByte ⟨#[48, 49, 50, 51, 52, 53, 54, 55, 56, 57]⟩ n w
        obtain ⟨j, hj⟩ : ∃ j, Lib.indexByte (⟨#[48, 49, 50, 51, 52, 53, 54, 55, 56, 57]⟩ : ByteArray).data.toList n.toNat.toUInt8 = j := ⟨_, rfl⟩
        rw [hj] at hix
        have hj2 : (j < 0) = (digP false x = false) := by rw [← hj]; exact hd
        have Hst : Hid ((s.data.toList.take (k + 1)).all (digP false) = digP false x) := hid (by
          rw [take_one _ k hkl, all_snoc, hr.out, data_get s k hlt hkl, hx]; rfl)
        have Hix := hid hix
        have Hj := hid hj2
        clear hix hj2 hj hd
        cases hb : digP false x with
        | false =>
          have hj3 : j < 0 := Hj.out.mpr hb
          go_wp2_with (go_at_call 67; refine (Hix.out _).mono ?_; rintro e w1 ⟨rfl, hw⟩; obtain rfl := hw.symm)
          go_ret
          refine ⟨_, rfl, hid ?_, rfl⟩
          have : s.data.toList.all (digP false) = false := by
            rw [List.all_eq_false]
            refine ⟨x, ?_, by simp [hb]⟩
            rw [← Hx.out, ← data_get s k hlt hkl]; exact List.getElem_mem _
          unfold numericL; rw [this]; rfl
        | true =>
          have hj3 : 0 ≤ j := by
            rcases Int.lt_or_le j 0 with h | h
            · rw [Hj.out.mp h] at hb; cases hb
            · exact h
          have Hb := hid hb
          clear hb
          go_wp2_with (go_at_call 67; refine (Hix.out _).mono ?_; rintro e w1 ⟨rfl, hw⟩; obtain rfl := hw.symm)
          go_roundw
          case rel => exact ⟨k + 1, by omega, by go_num, hid (by rw [Hst.out, Hb.out]), trivial⟩
          case measure => simp [intOf]; omega
      · obtain rfl : k = s.size := by omega
        have hr2 := hr.out
        rw [take_all] at hr2
        have HR := hid hr2
        clear hr2
        go_wp2
        go_ret
        refine ⟨_, rfl, hid ?_, rfl⟩
        unfold numericL; rw [HR.out, Hlen.out, Bool.true_and]; rw [Bool.eq_iff_iff]; simp; try omega
  case true =>
    go_enter Tryd.func70, Tryd.ntmps70
    go_wp2
    go_loopw [10] (fun i wr => ∃ k : Nat, k ≤ s.size ∧ i = .int .i64 k ∧ Hid ((s.data.toList.take k).all (digP true) = true) ∧ wr = w) (fun i _ => s.size - (intOf i).toNat)
    case atStart => exact ⟨0, Nat.zero_le _, rfl, hid (by simp), rfl⟩
    case round =>
      obtain ⟨k, hk, rfl, hr, rfl⟩ := hrel
      by_cases hlt : k < s.size
      · have hkl : k < s.data.toList.length := by rw [Hlen.out]; exact hlt
        obtain ⟨x, hx⟩ : ∃ x, s[k]'hlt = x := ⟨_, rfl⟩
        have Hx := hid hx
        obtain ⟨n, hn⟩ : ∃ n : Int, (x.toNat : Int) = n := ⟨_, rfl⟩
        have hn0 : 0 ≤ n ∧ n ≤ 255 := by have := x.toNat_lt; omega
        have hd := dig_in true n hn0.1 hn0.2
        rw [← hn, bOf_cast, hn] at hd
        have hix := fun w => Tryd.strings_IndexByte ⟨#[48, 49, 50, 51, 52, 53, 54, 55, 56, 57, 97, 98, 99, 100, 101, 102, 65, 66, 67, 68, 69, 70]⟩ n w
        obtain ⟨j, hj⟩ : ∃ j, Lib.indexByte (⟨#[48, 49, 50, 51, 52, 53, 54, 55, 56, 57, 97, 98, 99, 100, 101, 102, 65, 66, 67, 68, 69, 70]⟩ : ByteArray).data.toList n.toNat.toUInt8 = j := ⟨_, rfl⟩
        rw [hj] at hix
        have hj2 : (j < 0) = (digP true x = false) := by rw [← hj]; exact hd
        have Hst : Hid ((s.data.toList.take (k + 1)).all (digP true) = digP true x) := hid (by
          rw [take_one _ k hkl, all_snoc, hr.out, data_get s k hlt hkl, hx]; rfl)
        have Hix := hid hix
        have Hj := hid hj2
        clear hix hj2 hj hd
        cases hb : digP true x with
        | false =>
          have hj3 : j < 0 := Hj.out.mpr hb
          go_wp2_with (go_at_call 67; refine (Hix.out _).mono ?_; rintro e w1 ⟨rfl, hw⟩; obtain rfl := hw.symm)
          go_ret
          refine ⟨_, rfl, hid ?_, rfl⟩
          have : s.data.toList.all (digP true) = false := by
            rw [List.all_eq_false]
            refine ⟨x, ?_, by simp [hb]⟩
            rw [← Hx.out, ← data_get s k hlt hkl]; exact List.getElem_mem _
          unfold numericL; rw [this]; rfl
        | true =>
          have hj3 : 0 ≤ j := by
            rcases Int.lt_or_le j 0 with h | h
            · rw [Hj.out.mp h] at hb; cases hb
            · exact h
          have Hb := hid hb
          clear hb
          go_wp2_with (go_at_call 67; refine (Hix.out _).mono ?_; rintro e w1 ⟨rfl, hw⟩; obtain rfl := hw.symm)
          go_roundw
          case rel => exact ⟨k + 1, by omega, by go_num, hid (by rw [Hst.out, Hb.out]), trivial⟩
          case measure => simp [intOf]; omega
      · obtain rfl : k = s.size := by omega
        have hr2 := hr.out
        rw [take_all] at hr2
        have HR := hid hr2
        clear hr2
        go_wp2
        go_ret
        refine ⟨_, rfl, hid ?_, rfl⟩
        unfold numericL; rw [HR.out, Hlen.out, Bool.true_and]; rw [Bool.eq_iff_iff]; simp; try omega
end Go.Proofs.YtihgmgpcdodknaaDoor
