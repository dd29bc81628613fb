import Derived.Test.YtihgmgpcdodknaaDoorRefs
import Derived.Test.YtihgmgpcdodknaaDoorBstr
import Derived.Lib.SmallJoins
set_option linter.unusedVariables false
/- Plain: the first reference, by way of the first ';'. Unfinished ones. No program in sight (but package refs' small words). -/
namespace Go.Proofs.YtihgmgpcdodknaaDoor
open Go.RowKit Go.Lib

theorem split_first {b u r v : List UInt8} (c : UInt8) (e : b ++ c :: r = u ++ c :: v) (hb : c ∉ b) (hu : c ∉ u) : b = u ∧ r = v := by
  induction b generalizing u with
  | nil =>
    cases u with
    | nil => simp at e; exact ⟨rfl, e⟩
    | cons d u => rw [List.nil_append, List.cons_append] at e; injection e with e1 e2; subst e1; exact absurd (List.mem_cons_self ..) hu
  | cons d b ih =>
    cases u with
    | nil => rw [List.nil_append, List.cons_append] at e; injection e with e1 e2; subst e1; exact absurd (List.mem_cons_self ..) hb
    | cons d' u =>
      rw [List.cons_append, List.cons_append] at e
      injection e with e1 e2
      subst e1
      obtain ⟨h1, h2⟩ := ih e2 (fun h => hb (List.mem_cons_of_mem _ h)) (fun h => hu (List.mem_cons_of_mem _ h))
      exact ⟨by rw [h1], h2⟩
theorem one_empty : oneR [] = ([], 0) := rfl
/-- no ';' among the first sixteen octets: no reference -/
theorem one_nosemi (s : List UInt8) (h : (59 : UInt8) ∉ s.take 16) : oneR s = ([], 0) := by
  refine one_other _ (fun m x r e hm => ?_)
  obtain ⟨u, hu, _, _, h9, _⟩ := mtch_shape m x hm
  apply h
  have e1 : s.take 16 = m ++ r.take (16 - m.length) := by
    rw [e, List.take_append]
    congr 1
    exact List.take_of_length_le (by rw [hu]; simp; omega)
  rw [e1, hu]; simp
theorem nameB_some (b : List UInt8) (h : (nameB b).2 = true) : ∃ p ∈ names, p.1 = b ∧ [p.2] = (nameB b).1 := by
  unfold nameB at h ⊢
  repeat' split
  all_goals first | (rename_i e; subst e; simp [names]; done) | skip
  all_goals simp_all
theorem nameB_none (b : List UInt8) (h : (nameB b).2 = false) : ∀ p ∈ names, p.1 ≠ b := by
  intro p hp e
  subst e
  simp only [names, List.mem_cons, List.not_mem_nil, or_false] at hp
  rcases hp with rfl | rfl | rfl | rfl | rfl <;> simp [nameB] at h
theorem one_named (b r : List UInt8) (h : (nameB b).2 = true) : oneR (38 :: (b ++ 59 :: r)) = ((nameB b).1, b.length + 2) := by
  obtain ⟨p, hp, rfl, h2⟩ := nameB_some b h
  have := mtch_one (38 :: (p.1 ++ [59])) [p.2] r (.inl ⟨p, hp, rfl, rfl⟩)
  rw [← h2]
  simpa using this
theorem partL_is (b t : List UInt8) (hex : Bool) (h : partL b = (t, hex, true)) : ∃ pre, (hex = true ∧ (pre = [120] ∨ pre = [88]) ∨ hex = false ∧ pre = []) ∧ b = 35 :: (pre ++ t) := by
  unfold partL at h
  split at h
  · rename_i c u
    split at h
    · rename_i hx
      injection h with h1 h2; injection h2 with h2 h3
      subst h1; subst h2
      unfold isX at hx
      rw [Bool.or_eq_true, beq_iff_eq, beq_iff_eq] at hx
      refine ⟨[c], .inl ⟨rfl, ?_⟩, rfl⟩
      rcases hx with rfl | rfl
      · exact .inl rfl
      · exact .inr rfl
    · injection h with h1 h2; injection h2 with h2 h3
      subst h1; subst h2
      exact ⟨[], .inr ⟨rfl, rfl⟩, rfl⟩
  · injection h with h1 h2; injection h2 with h2 h3
    subst h1; subst h2
    exact ⟨[], .inr ⟨rfl, rfl⟩, rfl⟩
  · injection h with h1 h2; injection h2 with h2 h3
    cases h3
theorem one_number (b r t : List UInt8) (hex : Bool) (hp : partL b = (t, hex, true)) (h1 : t ≠ []) (h2 : numericL t hex = true) : oneR (38 :: (b ++ 59 :: r)) = (chrOf (valN (baseN hex) t), b.length + 2) := by
  obtain ⟨pre, hpre, rfl⟩ := partL_is b t hex hp
  unfold numericL at h2
  rw [Bool.and_eq_true, decide_eq_true_iff] at h2
  have hl : 1 ≤ t.length := List.length_pos_iff.2 h1
  have := mtch_one (38 :: 35 :: (pre ++ t ++ [59])) _ r (.inr ⟨hex, pre, t, hpre, hl, h2.2, h2.1, rfl, rfl⟩)
  have e : (38 :: 35 :: (pre ++ t ++ [59])).length = (35 :: (pre ++ t)).length + 2 := by simp; omega
  rw [e] at this
  simpa using this
theorem one_none (b r : List UInt8) (hb : (59 : UInt8) ∉ b) (h1 : (nameB b).2 = false) (h2 : (partL b).2.2 = true → (partL b).1 ≠ [] → numericL (partL b).1 (partL b).2.1 = false) : oneR (38 :: (b ++ 59 :: r)) = ([], 0) := by
  refine one_other _ (fun m x r' e hm => ?_)
  obtain ⟨u, hu, hu59, _⟩ := mtch_shape m x hm
  rw [hu] at e
  have e2 : b ++ 59 :: r = u ++ 59 :: r' := by
    rw [List.cons_append] at e
    injection e with _ e
    simpa using e
  obtain ⟨rfl, _⟩ := split_first 59 e2 hb hu59
  rcases hm with ⟨p, hp, hm, _⟩ | ⟨hex, pre, ds, hx, d1, d2, d3, hm, _⟩
  · rw [hu] at hm
    injection hm with _ hm
    have := List.append_cancel_right hm
    exact nameB_none b h1 p hp this.symm
  · rw [hu] at hm
    injection hm with _ hm
    have hm2 : b = 35 :: (pre ++ ds) := by
      have : b ++ [59] = (35 :: (pre ++ ds)) ++ [59] := by rw [hm]; simp
      exact List.append_cancel_right this
    have hne : ds ≠ [] := by intro e; rw [e] at d1; simp at d1
    have hpl : partL b = (ds, hex, true) := by
      rw [hm2]
      rcases hx with ⟨rfl, rfl | rfl⟩ | ⟨rfl, rfl⟩
      · rfl
      · rfl
      · cases ds with
        | nil => exact absurd rfl hne
        | cons d ds =>
          have hd : isD d = true := by rw [List.all_cons, Bool.and_eq_true] at d3; exact d3.1
          have hX : isX d = false := by
            cases e : isX d with
            | false => rfl
            | true => rw [dig_noX d e] at hd; cases hd
          show partL (35 :: d :: ds) = _
          simp only [partL]
          rw [hX]; rfl
    rw [hpl] at h2
    have := h2 rfl hne
    unfold numericL at this
    simp only at this
    rw [d3, Bool.true_and, decide_eq_false_iff_not] at this
    exact this d2
/-- a place of ';' -/
theorem semi_at (s : List UInt8) (j : Nat) (h : indexByte (s.take 16) 59 = j) : j < s.length ∧ j < 16 ∧ s = s.take j ++ 59 :: s.drop (j + 1) ∧ (59 : UInt8) ∉ s.take j := by
  obtain ⟨h1, h2⟩ := indexByte_some h
  have hlt : j < (s.take 16).length := by
    rcases Nat.lt_or_ge j (s.take 16).length with h' | h'
    · exact h'
    · rw [List.getElem?_eq_none h'] at h1; cases h1
  rw [List.length_take] at hlt
  have hj : j < s.length := by omega
  rw [List.getElem?_take, if_pos (by omega), List.getElem?_eq_getElem hj] at h1
  injection h1 with h1
  refine ⟨hj, by omega, ?_, ?_⟩
  · have := List.take_append_drop j s
    rw [List.drop_eq_getElem_cons hj, h1] at this
    exact this.symm
  · intro hm
    rw [List.mem_take_iff_getElem] at hm
    obtain ⟨k, hk, e⟩ := hm
    refine h2 k (by omega) ?_
    rw [List.getElem?_take, if_pos (by omega), List.getElem?_eq_getElem (by omega), e]
theorem semi_none (s : List UInt8) (h : indexByte (s.take 16) 59 < 0) : (59 : UInt8) ∉ s.take 16 := by
  have hg := indexByte_ge (s.take 16) 59
  have := indexByte_none (show indexByte (s.take 16) 59 = -1 by omega)
  intro hm
  obtain ⟨k, hk, e⟩ := List.mem_iff_getElem.1 hm
  exact this k (by rw [List.getElem?_eq_getElem hk, e])
end Go.Proofs.YtihgmgpcdodknaaDoor
/- Package refs: value, One. -/
namespace Go.Proofs.YtihgmgpcdodknaaDoor
open Go.RowKit

theorem isD_range (c : UInt8) (h : isD c = true) : 48 ≤ (c.toNat : Int) ∧ (c.toNat : Int) ≤ 57 ∧ (dval c : Int) = (c.toNat : Int) - 48 := by
  have h' := h
  unfold isD at h
  rw [Bool.and_eq_true, decide_eq_true_iff, decide_eq_true_iff] at h
  unfold dval
  rw [h', if_pos rfl]
  omega

set_option maxRecDepth 100000 in
set_option maxHeartbeats 800000 in
theorem value_any (s : ByteArray) (hex : Bool) (w : World) (h1 : 1 ≤ s.size) (h2 : s.size ≤ 7) (hd : s.data.toList.all (digP hex) = true) :
    Calls Tryd.prog 71 #[.string s, .bool hex] w fun e w' => e = .returned (.int .i64 (valN (baseN hex) s.data.toList)) ∧ Below w.heap.size w w' := by
  cases hex with
  | true =>
    have hU := unhex_any s w h1 h2 hd
    have HU := hid hU
    clear hU hd
    go_enter Tryd.func71, Tryd.ntmps71
    go_wp2_with fail
    refine HU.out.mono ?_
    rintro e w1 ⟨rfl, hb⟩
    go_wp2
    go_ret
    exact ⟨rfl, hb⟩
  | false =>
    have kc := fun (w : World) (s : ByteArray) => run_bytes_of_string (P := Tryd.prog) w 9 49 5 s Tryd.underlying9 Tryd.underlying49 Tryd.underlying5
    have Hlen := hid (len_data s)
    have Hd := hid hd
    clear hd
    go_enter Tryd.func71, Tryd.ntmps71
    go_wp2
    go_loopw [7, 20] (fun q i wr => ∃ k : Nat, ∃ v : Int, k ≤ s.size ∧ i = .int .i64 k ∧ q = .int .i64 v ∧ Hid (v = valN 10 (s.data.toList.take k)) ∧ 0 ≤ v ∧ v < 536870912 ∧ BytesIn wr w.heap.size s.data.toList ∧ Below w.heap.size w wr) (fun _ i _ => s.size - (intOf i).toNat)
    case atStart => exact ⟨0, 0, Nat.zero_le _, rfl, rfl, hid rfl, by omega, by omega, (BytesIn.new w s _ _ _).drew, by go_grown⟩
    case round =>
      obtain ⟨k, v, hk, rfl, rfl, hv, hv0, hv1, hB, hb⟩ := hrel
      have HB := hid hB
      clear hB
      by_cases hlt : k < s.size
      · have hkl : k < s.data.toList.length := by rw [Hlen.out]; exact hlt
        have hc0 := HB.out k hkl
        obtain ⟨c, hc⟩ : ∃ c, s.data.toList[k] = c := ⟨_, rfl⟩
        rw [hc] at hc0
        have hH : isD c = true := List.all_eq_true.1 Hd.out c (by rw [← hc]; exact List.getElem_mem _)
        have hr := isD_range c hH
        obtain ⟨n, hn⟩ : ∃ n : Int, (c.toNat : Int) = n := ⟨_, rfl⟩
        rw [hn] at hr hc0
        have Hst : Hid (((valN 10 (s.data.toList.take (k + 1)) : Nat) : Int) = v * 10 + (n - 48)) := hid (by
          rw [take_one _ k hkl, valN_snoc, hc, hv.out]; push_cast; rw [hr.2.2])
        have HvB : Hid (k + 1 ≤ 7 → v * 10 + (n - 48) < 536870912) := hid (fun _ => by
          have hall : ∀ c ∈ s.data.toList.take (k + 1), dval c < 16 := fun c hc => by
            have h3 : isD c = true := List.all_eq_true.1 Hd.out c (List.mem_of_mem_take hc)
            have := isD_range c h3
            omega
          have hl : (s.data.toList.take (k + 1)).length = k + 1 := by rw [List.length_take, Hlen.out]; omega
          have := valN_lt 10 (by omega) (k + 1) _ hl hall
          have h7 : 16 ^ (k + 1) ≤ 16 ^ 7 := Nat.pow_le_pow_right (by omega) (by omega)
          have := Hst.out
          omega)
        have hn0 : 48 ≤ n ∧ n ≤ 57 := ⟨hr.1, hr.2.1⟩
        clear hr hH hc hn
        go_wp2
        go_roundw
        case rel => exact ⟨k + 1, v * 10 + (n - 48), by omega, by go_num, rfl, hid Hst.out.symm, by omega, HvB.out (by omega), HB.out, hb⟩
        case measure => simp [intOf]; omega
      · obtain rfl : k = s.size := by omega
        have hv' := hv.out
        rw [take_all] at hv'
        subst hv'
        go_wp2
        go_ret
        exact ⟨rfl, hb⟩

theorem chrOf_ok (n : Nat) (h : encOk (n : Int) = true) (h0 : n ≠ 0) : chrOf n = encL (n : Int) ∧ encE (n : Int) = 0 := by
  unfold chrOf encL encE; rw [if_pos ⟨h, h0⟩, h]; exact ⟨rfl, rfl⟩
theorem chrOf_bad (n : Nat) (h : encOk (n : Int) = false) : chrOf n = [239, 191, 189] ∧ encE (n : Int) = 4 := by
  unfold chrOf encE; rw [h]; exact ⟨rfl, rfl⟩

set_option maxRecDepth 100000 in
set_option maxHeartbeats 1600000 in
theorem one_any (s : ByteArray) (w : World) (hs : s.size ≤ 1099511627776) :
    Calls Tryd.prog 36 #[.string s] w (RStrInt w (oneR s.data.toList).1 ((oneR s.data.toList).2 : Int)) := by
  have Hlen := hid (len_data s)
  by_cases h0 : s.size = 0
  · obtain rfl : s = ⟨#[]⟩ := by
      have : s.data = #[] := Array.eq_empty_of_size_eq_zero h0
      cases s; simp_all
    go_enter Tryd.func36, Tryd.ntmps36
    go_wp2
    go_ret2
    exact ⟨_, _, rfl, hid rfl, hid rfl, Below.refl _ _⟩
  · have hpos : 0 < s.size := by omega
    obtain ⟨c, u, hcu⟩ : ∃ c u, s.data.toList = c :: u := by
      cases e : s.data.toList with
      | nil => have := Hlen.out; rw [e] at this; exact absurd this.symm h0
      | cons c u => exact ⟨c, u, rfl⟩
    have hemp : s.toList.isEmpty = false := by rw [ByteArray.toList_eq, hcu]; rfl
    have hc : s[0]'hpos = c := by rw [← data_get s 0 hpos (by rw [len_data]; exact hpos)]; simp [hcu]
    have Hcu := hid hcu
    clear hcu
    by_cases h38 : c = 38
    · subst h38
      obtain ⟨q, hq, hq2⟩ : ∃ q : Nat, min (s.size : Int) 16 = (q : Int) ∧ q ≤ s.size ∧ (s.data.toList.take q = s.data.toList.take 16) := by
        rcases Nat.lt_or_ge s.size 16 with h | h
        · exact ⟨s.size, by omega, by omega, by rw [List.take_of_length_le (by rw [Hlen.out]; omega), List.take_of_length_le (by rw [Hlen.out]; omega)]⟩
        · exact ⟨16, by omega, by omega, rfl⟩
      have hqs := hq2.1
      have Hq2 := hid hq2.2
      clear hq2
      obtain ⟨j, hj⟩ : ∃ j, Lib.indexByte (s.data.toList.take 16) 59 = j := ⟨_, rfl⟩
      have hix := fun w => Tryd.strings_IndexByte (s.extract 0 q) 59 w
      have e59 : (59 : Int).toNat.toUInt8 = 59 := by decide
      rw [data_extract, List.drop_zero, Hq2.out, e59, hj] at hix
      have Hix := hid hix
      have Hj := hid hj
      clear hix hj e59
      by_cases hj0 : j < 0
      · have HO := hid (one_nosemi s.data.toList (semi_none _ (by rw [Hj.out]; exact hj0)))
        go_enter Tryd.func36, Tryd.ntmps36
        go_wp2_with (go_at_call 67; refine (Hix.out _).mono ?_; rintro e w1 ⟨rfl, hw⟩; obtain rfl := hw.symm)
        go_ret2
        exact ⟨_, _, rfl, hid (by rw [HO.out]), hid (by rw [HO.out]; rfl), Below.refl _ _⟩
      · obtain ⟨k, rfl⟩ : ∃ k : Nat, j = (k : Int) := ⟨j.toNat, by omega⟩
        obtain ⟨hk1, hk2, hk3, hk4⟩ := semi_at _ k Hj.out
        rw [Hlen.out] at hk1
        have hk0 : 1 ≤ k := by
          rcases Nat.eq_zero_or_pos k with h | h
          · subst h
            rw [List.take_zero, List.nil_append, Hcu.out] at hk3
            injection hk3 with h _; exact absurd h (by decide)
          · exact h
        obtain ⟨b, hb⟩ : ∃ b, s.extract 1 k = b := ⟨_, rfl⟩
        have hbd : b.data.toList = (s.data.toList.take k).drop 1 := by rw [← hb, data_extract]
        have hbs : b.size = k - 1 := by rw [← hb, ByteArray.size_extract]; omega
        obtain ⟨r, hr⟩ : ∃ r, s.data.toList.drop (k + 1) = r := ⟨_, rfl⟩
        have hl : s.data.toList = 38 :: (b.data.toList ++ 59 :: r) := by
          have e1 : s.data.toList.take k = 38 :: b.data.toList := by
            rw [hbd, Hcu.out]
            obtain ⟨k', rfl⟩ : ∃ k', k = k' + 1 := ⟨k - 1, by omega⟩
            rw [List.take_succ_cons]; rfl
          rw [e1, hr] at hk3
          rw [hk3]; rfl
        have hb59 : (59 : UInt8) ∉ b.data.toList := by
          rw [hbd]; exact fun h => hk4 (List.mem_of_mem_drop h)
        have Hl := hid hl
        have Hb59 := hid hb59
        have hbl : b.data.toList.length = k - 1 := by rw [len_data, hbs]
        have Hbl := hid hbl
        clear hl hb59 hbl hbd hr hk3 hk4
        have Hnone := hid (one_none b.data.toList r Hb59.out)
        go_enter Tryd.func36, Tryd.ntmps36
        go_wp2_with (first | (go_at_call 67; refine (Hix.out _).mono ?_; rintro e w1 ⟨rfl, hw⟩; obtain rfl := hw.symm))
        refine (named_any b _).mono ?_
        rintro e w1 ⟨t, q2, rfl, ht, rfl⟩
        cases q2 with
        | true =>
          have HO := hid (one_named b.data.toList r (by rw [← ht.out]))
          go_wp2
          go_ret2
          refine ⟨_, _, rfl, hid ?_, hid ?_, Below.refl _ _⟩
          · rw [Hl.out, HO.out, ← ht.out]
          · rw [Hl.out, HO.out, Hbl.out]; simp; omega
        | false =>
          have Hn2 : Hid ((nameB b.data.toList).2 = false) := hid (by rw [← ht.out])
          go_wp2_with fail
          refine (parts_any b _ (by omega)).mono ?_
          rintro e w1 ⟨t2, hex, is, rfl, ht2, rfl⟩
          cases is with
          | false =>
            have HO := hid (Hnone.out Hn2.out (fun h => by rw [← ht2.out] at h; cases h))
            go_wp2
            go_ret2
            exact ⟨_, _, rfl, hid (by rw [Hl.out, HO.out]), hid (by rw [Hl.out, HO.out]; rfl), Below.refl _ _⟩
          | true =>
            have Hlt2 := hid (len_data t2)
            by_cases ht0 : t2.size = 0
            · obtain rfl : t2 = ⟨#[]⟩ := by
                have : t2.data = #[] := Array.eq_empty_of_size_eq_zero ht0
                cases t2; simp_all
              have HO := hid (Hnone.out Hn2.out (fun _ h => absurd (by rw [← ht2.out]) h))
              go_wp2
              go_ret2
              exact ⟨_, _, rfl, hid (by rw [Hl.out, HO.out]), hid (by rw [Hl.out, HO.out]; rfl), Below.refl _ _⟩
            · have ht2n : t2.data.toList ≠ [] := by intro e; have := Hlt2.out; rw [e] at this; exact ht0 this.symm
              have hemp2 : t2.toList.isEmpty = false := by
                rw [ByteArray.toList_eq]
                cases e : t2.data.toList with
                | nil => exact absurd e ht2n
                | cons a t => rfl
              have Ht2n := hid ht2n
              have ht2s : t2.size ≤ 1099511627776 := by
                obtain ⟨pre, _, hpb⟩ := partL_is _ _ _ ht2.out.symm
                have := congrArg List.length hpb
                rw [Hbl.out] at this
                simp only [List.length_cons, List.length_append, Hlt2.out] at this
                omega
              clear ht2n
              go_wp2_with fail
              refine (numeric_any t2 hex _ ht2s).mono ?_
              rintro e w1 ⟨q3, rfl, hq3, rfl⟩
              cases q3 with
              | false =>
                have HO := hid (Hnone.out Hn2.out (fun _ _ => by rw [← ht2.out]; exact hq3.out.symm))
                go_wp2
                go_ret2
                exact ⟨_, _, rfl, hid (by rw [Hl.out, HO.out]), hid (by rw [Hl.out, HO.out]; rfl), Below.refl _ _⟩
              | true =>
                have HO := hid (one_number b.data.toList r t2.data.toList hex ht2.out.symm Ht2n.out hq3.out.symm)
                have hq4 := hq3.out
                unfold numericL at hq4
                have hq5 := (Bool.and_eq_true _ _).mp hq4.symm
                rw [decide_eq_true_iff, Hlt2.out] at hq5
                have hval := value_any t2 hex
                have Hval := hid (fun w => hval w (by omega) hq5.2 hq5.1)
                have hvl : valN (baseN hex) t2.data.toList < 536870912 := by
                  have hall : ∀ c ∈ t2.data.toList, dval c < 16 := fun c hc => by
                    have h3 : digP hex c = true := List.all_eq_true.1 hq5.1 c hc
                    refine dval_lt c ?_
                    unfold digP at h3
                    cases hex with
                    | true => exact h3
                    | false => unfold isH; rw [show isD c = true from h3]; rfl
                  have := valN_lt (baseN hex) (by cases hex <;> decide) t2.size _ Hlt2.out hall
                  have h7 : 16 ^ t2.size ≤ 16 ^ 7 := Nat.pow_le_pow_right (by omega) hq5.2
                  omega
                obtain ⟨n, hn⟩ : ∃ n, valN (baseN hex) t2.data.toList = n := ⟨_, rfl⟩
                have Hn := hid hn
                rw [hn] at hvl
                obtain ⟨z, hz⟩ : ∃ z : Int, (n : Int) = z := ⟨_, rfl⟩
                have Hz := hid hz
                have hz0 : 0 ≤ z ∧ z < 536870912 := by omega
                clear hval hq4 hq5 hn hvl hz
                go_wp2_with fail
                refine (Hval.out _).mono ?_
                rintro e w2 ⟨rfl, hb2⟩
                rw [Hn.out, Hz.out]
                go_wp2_with fail
                refine (encode_any z (by omega) (by omega) _).mono ?_
                rintro e w3 ⟨t3, r3, rfl, ht3, hr3, hb3⟩
                have hbb := then_ hb2 hb3
                have HO2 : Hid ((oneR s.data.toList).1 = chrOf n ∧ (((oneR s.data.toList).2 : Nat) : Int) = k + 1) := hid (by
                  rw [Hl.out, HO.out, Hn.out, Hbl.out]; exact ⟨rfl, by simp; omega⟩)
                cases hok : encOk z with
                | false =>
                  have hcb := chrOf_bad n (by rw [Hz.out]; exact hok)
                  rw [Hz.out] at hcb
                  obtain rfl : r3 = 4 := by rw [hr3.out]; exact hcb.2
                  have Hcb := hid hcb
                  clear hcb hok
                  go_wp2
                  go_ret2
                  exact ⟨_, _, rfl, hid (by rw [HO2.out.1, Hcb.out.1]), hid HO2.out.2.symm, hbb⟩
                | true =>
                  by_cases hz1 : z = 0
                  · subst hz1
                    have hn0 : n = 0 := by have := Hz.out; omega
                    obtain rfl : r3 = 0 := by rw [hr3.out]; rfl
                    have Hcb : Hid (chrOf n = [239, 191, 189]) := hid (by rw [hn0]; rfl)
                    clear hok
                    go_wp2
                    go_ret2
                    exact ⟨_, _, rfl, hid (by rw [HO2.out.1, Hcb.out]), hid HO2.out.2.symm, hbb⟩
                  · have hcb := chrOf_ok n (by rw [Hz.out]; exact hok) (by have := Hz.out; omega)
                    rw [Hz.out] at hcb
                    obtain rfl : r3 = 0 := by rw [hr3.out]; exact hcb.2
                    have Hcb := hid hcb
                    clear hcb hok
                    go_wp2
                    go_ret2
                    exact ⟨_, _, rfl, hid (by rw [HO2.out.1, Hcb.out.1, ht3.out]), hid HO2.out.2.symm, hbb⟩
    · have HO := hid (one_notamp c u h38)
      obtain ⟨n, hn⟩ : ∃ n : Int, (c.toNat : Int) = n := ⟨_, rfl⟩
      have hn2 : (n == 38) = false := by
        rw [beq_eq_false_iff_ne]
        intro e
        apply h38
        exact UInt8.toNat_inj.1 (by have : (38 : UInt8).toNat = 38 := rfl; omega)
      go_enter Tryd.func36, Tryd.ntmps36
      go_wp2
      go_ret2
      exact ⟨_, _, rfl, hid (by rw [Hcu.out, HO.out]), hid (by rw [Hcu.out, HO.out]; rfl), Below.refl _ _⟩
end Go.Proofs.YtihgmgpcdodknaaDoor
/- Package refs: Decode (as in RefsX, alone). -/
namespace Go.Proofs.YtihgmgpcdodknaaDoor
open Go.RowKit

theorem mtch_len (m x : List UInt8) (h : Mtch m x) : 4 ≤ m.length ∧ x.length ≤ 4 := by
  refine ⟨?_, (mtch_shape m x h).elim fun u h => h.2.2.2.2.2⟩
  rcases h with ⟨p, hp, rfl, rfl⟩ | ⟨hex, pre, ds, hx, h1, h2, h3, rfl, rfl⟩
  · simp only [names, List.mem_cons, List.not_mem_nil, or_false] at hp
    rcases hp with rfl | rfl | rfl | rfl | rfl <;> decide
  · simp; omega
theorem one_len (s : List UInt8) : (oneR s).1.length ≤ (oneR s).2 ∧ (oneR s).2 ≤ s.length := by
  rcases one_mtch s with e | ⟨m, x, r, rfl, hm⟩
  · rw [e]; simp
  · rw [mtch_one m x r hm]
    have := mtch_len m x hm
    simp; omega

set_option maxRecDepth 100000 in
set_option maxHeartbeats 1600000 in
theorem decode06_any (s : ByteArray) (w : World) (hs : s.size ≤ 137438953472) :
    Calls Tryd.prog 35 #[.string s] w (RStr w (decL s.data.toList)) := by
  have Hlen := hid (len_data s)
  go_enter Tryd.func35, Tryd.ntmps35
  go_wp2
  go_loopw [0] (fun x wr => ∃ (u : ByteArray) (pre : List UInt8), x = .string u ∧ Hid (Bld w.heap.size (w.heap.size + 1) pre wr) ∧ pre.length + u.size ≤ s.size ∧ Hid (decL s.data.toList = pre ++ decL u.data.toList) ∧ Below w.heap.size w wr) (fun x _ => match x with | .string u => u.size | _ => 0)
  case atStart => exact ⟨s, [], rfl, hid (Bld.new w), by simp, hid rfl, by go_grown⟩
  case round =>
    obtain ⟨u, pre, rfl, hB, hl, hd, hb⟩ := hrel
    have Hlu := hid (len_data u)
    by_cases h0 : u.size = 0
    · obtain rfl : u = ⟨#[]⟩ := by
        have : u.data = #[] := Array.eq_empty_of_size_eq_zero h0
        cases u; simp_all
      go_wp2_with fail
      refine (bstrK_any _ _ _ _ hB.out).mono ?_
      rintro e w2 ⟨rfl, hb2, _⟩
      go_wp2
      go_ret
      refine ⟨_, rfl, hid ?_, hb.trans (hb2.mono (by omega))⟩
      have := hd.out
      have e0 : decL (⟨#[]⟩ : ByteArray).data.toList = [] := rfl
      rw [e0, List.append_nil] at this
      exact this.symm
    · have hpos : 0 < u.size := by omega
      obtain ⟨c, t, hct⟩ : ∃ c t, u.data.toList = c :: t := by
        cases e : u.data.toList with
        | nil => have := Hlu.out; rw [e] at this; exact absurd this.symm h0
        | cons c t => exact ⟨c, t, rfl⟩
      have hemp : u.toList.isEmpty = false := by rw [ByteArray.toList_eq, hct]; rfl
      have hc : u[0]'hpos = c := by rw [← data_get u 0 hpos (by rw [len_data]; exact hpos)]; simp [hct]
      have Hct := hid hct
      have Hone := hid (one_len u.data.toList)
      clear hct
      go_wp2_with fail
      refine (one_any u _ (by omega)).mono ?_
      rintro e w2 ⟨x, n', rfl, hx, hn, hb2⟩
      have hB2 := hB.out.keep hb2
      have hbb := after hb hb2 hb.size
      obtain ⟨n, rfl⟩ : ∃ n : Nat, n' = (n : Int) := ⟨_, hn.out⟩
      have hn2 : (oneR u.data.toList).2 = n := by have := hn.out; omega
      have hxl : x.size ≤ n ∧ n ≤ u.size := by
        have h1 := Hone.out
        rw [hn2, ← hx.out, len_data, len_data] at h1
        exact h1
      have Hn := hid hn2
      clear hn hn2
      have Hst := hid (decL_cons c t)
      by_cases hn0 : 0 < n
      · have hex : Hid ((u.extract n u.size).data.toList = u.data.toList.drop n) := hid (by rw [data_extract, List.take_of_length_le (by rw [len_data]; exact Nat.le_refl _)])
        go_wp2_with (go_at_call 65; refine (writeString_any _ _ _ x _ hB2 (by omega)).mono ?_; rintro e w3 ⟨rfl, hB3, hX3⟩)
        go_roundw
        case rel =>
          refine ⟨_, _, rfl, hid hB3, ?_, hid ?_, hbb.trans (hX3.below (by omega))⟩
          · rw [List.length_append, len_data, ByteArray.size_extract]; omega
          · rw [hd.out, hex.out, List.append_assoc, hx.out, Hct.out, Hst.out, ← Hct.out, Hn.out, if_pos hn0]
        case measure => simp only []; rw [ByteArray.size_extract]; omega
      · obtain rfl : n = 0 := by omega
        have hcb : (c.toNat : Int) ≤ 255 := by have := c.toNat_lt; omega
        have hex : Hid ((u.extract 1 u.size).data.toList = t) := hid (by rw [data_extract, List.take_of_length_le (by rw [len_data]; exact Nat.le_refl _), Hct.out]; rfl)
        go_wp2_with (go_at_call 66; refine (writeByte_any _ _ _ (c.toNat : Int) _ hB2 (by omega) hcb (by omega)).mono ?_; rintro e w3 ⟨rfl, hB3, hX3⟩)
        go_roundw
        case rel =>
          refine ⟨_, _, rfl, hid hB3, ?_, hid ?_, hbb.trans (hX3.below (by omega))⟩
          · rw [List.length_append, ByteArray.size_extract, List.length_singleton]; omega
          · rw [hd.out, hex.out, List.append_assoc, bOf_cast, Hct.out, Hst.out, ← Hct.out, Hn.out, if_neg (by omega)]; rfl
        case measure => simp only []; rw [ByteArray.size_extract]; omega
end Go.Proofs.YtihgmgpcdodknaaDoor
