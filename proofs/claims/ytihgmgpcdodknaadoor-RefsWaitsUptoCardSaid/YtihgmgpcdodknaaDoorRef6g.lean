/- refs.Unfinished and the pages' one. -/
import Derived.Test.YtihgmgpcdodknaaDoorRef6f
set_option linter.unusedVariables false
namespace Go.Proofs.YtihgmgpcdodknaaDoor
open Go.RowKit

def wordAt (k : Nat) : List UInt8 := match k with | 0 => [97, 109, 112] | 1 => [108, 116] | 2 => [103, 116] | 3 => [113, 117, 111, 116] | _ => [97, 112, 111, 115]
theorem unf_word (t : List UInt8) (k : Nat) (hk : k < 5) (h : begL t (wordAt k) = true) : unfR (38 :: t) = true := by
  unfold begL at h
  have hm : ∃ c, (wordAt k, c) ∈ names := by
    rcases (show k = 0 ∨ k = 1 ∨ k = 2 ∨ k = 3 ∨ k = 4 by omega) with rfl | rfl | rfl | rfl | rfl <;> simp [wordAt, names]
  obtain ⟨c, hc⟩ := hm
  show (_ || _) = true
  rw [List.any_eq_true.2 ⟨_, hc, h⟩]; rfl
theorem unf_rest (t : List UInt8) (h : ∀ k, k < 5 → begL t (wordAt k) = false) : unfR (38 :: t) = ((partL t).2.2 && numericL (partL t).1 (partL t).2.1) := by
  have e : names.any (fun p => t.isPrefixOf p.1) = false := by
    rw [List.any_eq_false]
    intro p hp
    simp only [names, List.mem_cons, List.not_mem_nil, or_false] at hp
    have h0 := h 0 (by omega)
    have h1 := h 1 (by omega)
    have h2 := h 2 (by omega)
    have h3 := h 3 (by omega)
    have h4 := h 4 (by omega)
    unfold begL wordAt at h0 h1 h2 h3 h4
    rcases hp with rfl | rfl | rfl | rfl | rfl <;> simp_all
  show (_ || _) = _
  rw [e, Bool.false_or]
theorem unf_no (s : List UInt8) (h : ∀ u, s ≠ 38 :: u) : unfR s = false := by
  unfold unfR
  split
  · rename_i t; exact absurd rfl (h t)
  · rfl

set_option maxRecDepth 100000 in
set_option maxHeartbeats 1600000 in
theorem unfinished_any (s : ByteArray) (w : World) (hs : s.size ≤ 1099511627776) :
    Calls Tryd.prog 40 #[.string s] w (RBool w (unfR s.data.toList)) := by
  have Hlen := hid (len_data s)
  go_enter Tryd.func40, Tryd.ntmps40
  go_wp2_with fail
  refine (cut_any s 38 _).mono ?_
  rintro e w1 ⟨t, b, rfl, ht, hf, rfl⟩
  cases b with
  | false =>
    have HF := hid (unf_no s.data.toList (hf.out rfl).2)
    go_wp2
    go_ret
    exact ⟨_, rfl, hid HF.out.symm, Below.refl _ _⟩
  | true =>
    have HE := hid (ht.out rfl)
    have Hlt := hid (len_data t)
    have hts : t.size ≤ 1099511627776 := by
      have := congrArg List.length HE.out
      rw [Hlen.out, List.length_cons, Hlt.out] at this
      omega
    have HHP := hid (fun (p : ByteArray) (w : World) => Tryd.strings_HasPrefix p t w)
    have hwd := ht
    clear ht hf hwd
    go_wp2
    go_loopw [18] (fun i wr => ∃ k : Nat, k ≤ 5 ∧ i = .int .i64 k ∧ Hid (∀ j, j < k → begL t.data.toList (wordAt j) = false) ∧ wr = w.alloc (.cells #[.string ⟨#[97, 109, 112]⟩, .string ⟨#[108, 116]⟩, .string ⟨#[103, 116]⟩, .string ⟨#[113, 117, 111, 116]⟩, .string ⟨#[97, 112, 111, 115]⟩] 9)) (fun i _ => 5 - (intOf i).toNat)
    case atStart => exact ⟨0, by omega, rfl, hid (fun j h => absurd h (by omega)), rfl⟩
    case round =>
      obtain ⟨k, hk, rfl, hr, rfl⟩ := hrel
      have hbw : Below w.heap.size w (w.alloc (.cells #[.string ⟨#[97, 109, 112]⟩, .string ⟨#[108, 116]⟩, .string ⟨#[103, 116]⟩, .string ⟨#[113, 117, 111, 116]⟩, .string ⟨#[97, 112, 111, 115]⟩] 9)) := by go_grown
      rcases (show k = 0 ∨ k = 1 ∨ k = 2 ∨ k = 3 ∨ k = 4 ∨ k = 5 by omega) with rfl | rfl | rfl | rfl | rfl | rfl
      · go_wp2_with fail
        refine (HHP.out _ _).mono ?_
        rintro e w2 ⟨rfl, hw⟩
        obtain rfl := hw.symm
        obtain ⟨q, hq⟩ : ∃ q, Lib.hasPrefix (⟨#[97, 109, 112]⟩ : ByteArray).data.toList t.data.toList = q := ⟨_, rfl⟩
        rw [hq]
        have Hq : Hid (begL t.data.toList (wordAt 0) = q) := hid hq
        clear hq
        cases q with
        | true =>
          have HU := hid (unf_word t.data.toList 0 (by omega) Hq.out)
          go_wp2
          go_ret
          exact ⟨_, rfl, hid (by rw [HE.out, HU.out]), hbw⟩
        | false =>
          go_wp2
          go_roundw
          case rel =>
            refine ⟨0 + 1, by omega, by go_num, hid (fun j h => ?_), by first | trivial | rfl⟩
            rcases Nat.lt_or_ge j 0 with hj | hj
            · exact hr.out j hj
            · obtain rfl : j = 0 := by omega
              exact Hq.out
          case measure => simp [intOf]
      · go_wp2_with fail
        refine (HHP.out _ _).mono ?_
        rintro e w2 ⟨rfl, hw⟩
        obtain rfl := hw.symm
        obtain ⟨q, hq⟩ : ∃ q, Lib.hasPrefix (⟨#[108, 116]⟩ : ByteArray).data.toList t.data.toList = q := ⟨_, rfl⟩
        rw [hq]
        have Hq : Hid (begL t.data.toList (wordAt 1) = q) := hid hq
        clear hq
        cases q with
        | true =>
          have HU := hid (unf_word t.data.toList 1 (by omega) Hq.out)
          go_wp2
          go_ret
          exact ⟨_, rfl, hid (by rw [HE.out, HU.out]), hbw⟩
        | false =>
          go_wp2
          go_roundw
          case rel =>
            refine ⟨1 + 1, by omega, by go_num, hid (fun j h => ?_), by first | trivial | rfl⟩
            rcases Nat.lt_or_ge j 1 with hj | hj
            · exact hr.out j hj
            · obtain rfl : j = 1 := by omega
              exact Hq.out
          case measure => simp [intOf]
      · go_wp2_with fail
        refine (HHP.out _ _).mono ?_
        rintro e w2 ⟨rfl, hw⟩
        obtain rfl := hw.symm
        obtain ⟨q, hq⟩ : ∃ q, Lib.hasPrefix (⟨#[103, 116]⟩ : ByteArray).data.toList t.data.toList = q := ⟨_, rfl⟩
        rw [hq]
        have Hq : Hid (begL t.data.toList (wordAt 2) = q) := hid hq
        clear hq
        cases q with
        | true =>
          have HU := hid (unf_word t.data.toList 2 (by omega) Hq.out)
          go_wp2
          go_ret
          exact ⟨_, rfl, hid (by rw [HE.out, HU.out]), hbw⟩
        | false =>
          go_wp2
          go_roundw
          case rel =>
            refine ⟨2 + 1, by omega, by go_num, hid (fun j h => ?_), by first | trivial | rfl⟩
            rcases Nat.lt_or_ge j 2 with hj | hj
            · exact hr.out j hj
            · obtain rfl : j = 2 := by omega
              exact Hq.out
          case measure => simp [intOf]
      · go_wp2_with fail
        refine (HHP.out _ _).mono ?_
        rintro e w2 ⟨rfl, hw⟩
        obtain rfl := hw.symm
        obtain ⟨q, hq⟩ : ∃ q, Lib.hasPrefix (⟨#[113, 117, 111, 116]⟩ : ByteArray).data.toList t.data.toList = q := ⟨_, rfl⟩
        rw [hq]
        have Hq : Hid (begL t.data.toList (wordAt 3) = q) := hid hq
        clear hq
        cases q with
        | true =>
          have HU := hid (unf_word t.data.toList 3 (by omega) Hq.out)
          go_wp2
          go_ret
          exact ⟨_, rfl, hid (by rw [HE.out, HU.out]), hbw⟩
        | false =>
          go_wp2
          go_roundw
          case rel =>
            refine ⟨3 + 1, by omega, by go_num, hid (fun j h => ?_), by first | trivial | rfl⟩
            rcases Nat.lt_or_ge j 3 with hj | hj
            · exact hr.out j hj
            · obtain rfl : j = 3 := by omega
              exact Hq.out
          case measure => simp [intOf]
      · go_wp2_with fail
        refine (HHP.out _ _).mono ?_
        rintro e w2 ⟨rfl, hw⟩
        obtain rfl := hw.symm
        obtain ⟨q, hq⟩ : ∃ q, Lib.hasPrefix (⟨#[97, 112, 111, 115]⟩ : ByteArray).data.toList t.data.toList = q := ⟨_, rfl⟩
        rw [hq]
        have Hq : Hid (begL t.data.toList (wordAt 4) = q) := hid hq
        clear hq
        cases q with
        | true =>
          have HU := hid (unf_word t.data.toList 4 (by omega) Hq.out)
          go_wp2
          go_ret
          exact ⟨_, rfl, hid (by rw [HE.out, HU.out]), hbw⟩
        | false =>
          go_wp2
          go_roundw
          case rel =>
            refine ⟨4 + 1, by omega, by go_num, hid (fun j h => ?_), by first | trivial | rfl⟩
            rcases Nat.lt_or_ge j 4 with hj | hj
            · exact hr.out j hj
            · obtain rfl : j = 4 := by omega
              exact Hq.out
          case measure => simp [intOf]
      · have HU := hid (unf_rest t.data.toList hr.out)
        go_wp2_with fail
        refine (parts_any t _ hts).mono ?_
        rintro e w2 ⟨t2, hex, is, rfl, ht2, rfl⟩
        cases is with
        | false =>
          have HU2 : Hid (unfR s.data.toList = false) := hid (by rw [HE.out, HU.out, ← ht2.out]; rfl)
          go_wp2
          go_ret
          exact ⟨_, rfl, hid HU2.out.symm, hbw⟩
        | true =>
          have ht2s : t2.size ≤ 1099511627776 := by
            obtain ⟨pre, _, hpb⟩ := partL_is _ _ _ ht2.out.symm
            have := congrArg List.length hpb
            rw [Hlt.out] at this
            simp only [List.length_cons, List.length_append, len_data] at this
            omega
          go_wp2_with fail
          refine (numeric_any t2 hex _ ht2s).mono ?_
          rintro e w2 ⟨q, rfl, hq, rfl⟩
          have HU2 : Hid (unfR s.data.toList = q) := hid (by rw [HE.out, HU.out, ← ht2.out, hq.out]; rfl)
          go_wp2
          go_ret
          exact ⟨_, rfl, hid HU2.out.symm, hbw⟩
end Go.Proofs.YtihgmgpcdodknaaDoor
