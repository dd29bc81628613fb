/- Contracts of package utf: Encode, Decode, Valid. -/
import Derived.Test.YtihgmgpcdodknaaDoorBuf
import Derived.Test.YtihgmgpcdodknaaDoorTokP
import Derived.Test.YtihgmgpcdodknaaDoorShelf
set_option linter.unusedVariables false
namespace Go.Proofs.YtihgmgpcdodknaaDoor
open Go.RowKit

theorem OwnB.of {w : World} {base : Nat} {v : Value} {n : Nat} {l : List UInt8} (h : w.ownsRow base 5 1 v n (Lib.byteCells l)) (hn : n = l.length) : OwnB w base v l := by subst hn; exact h

set_option maxHeartbeats 800000 in
theorem encode_any (c : Int) (hc0 : -9223372036854775808 ≤ c) (hc1 : c ≤ 9223372036854775807) (w : World) :
    Calls Tryd.prog 19 #[.int .i64 c] w (RStrInt w (encL c) (encE c)) := by
  have hok := hid (encOk_valid c)
  by_cases h0 : 0 ≤ c
  · by_cases h1 : c ≤ 1114111
    · have hcv : Hid (encOk c = Lib.validRune c) := hid (by rw [hok.out, decide_eq_true h0, decide_eq_true h1]; rfl)
      go_enter Tryd.func19, Tryd.ntmps19
      cases hv : Lib.validRune c with
      | false =>
        go_wp2_with (go_at_call 55; refine (Tryd.utf8_ValidRune _ _).mono ?_; rintro e w1 ⟨rfl, hw⟩; obtain rfl := hw.symm)
        go_ret2
        have e : encOk c = false := by rw [hcv.out, hv]
        refine ⟨_, _, rfl, hid ?_, hid ?_, Below.refl _ _⟩
        · unfold encL; rw [e]; rfl
        · unfold encE; rw [e]; rfl
      | true =>
        go_wp2_with (first | (go_at_call 55; refine (Tryd.utf8_ValidRune _ _).mono ?_; rintro e w1 ⟨rfl, hw⟩; obtain rfl := hw.symm))
        refine (Tryd.utf8_AppendRune_plain w.heap.size _ 0 [] c (by omega) (by omega) _ (World.ownsRow_nil _ _ _ _) (by omega) (by first | exact Nat.le_refl _ | simp)).mono ?_
        rintro e w2 ⟨v', rfl, hown, o, hg⟩
        rw [List.nil_append, Nat.zero_add, ← Lib.byteCells_encodeRune] at hown
        have hO := OwnB.of hown (by rw [Lib.byteCells_length])
        have hcv2 := hO.back
        have hbw : Below w.heap.size w w2 := ((Below.refl w.heap.size w).alloc (Nat.le_refl _) o).grown hg (by simp) (fun k hk => by cases hk)
        clear hown hO
        go_wp2
        go_ret2
        have e : encOk c = true := by rw [hcv.out, hv]
        refine ⟨_, _, rfl, hid ?_, hid ?_, hbw⟩
        · unfold encL; rw [e]; simp
        · unfold encE; rw [e]; rfl
    · go_enter Tryd.func19, Tryd.ntmps19
      go_wp2
      go_ret2
      have e : encOk c = false := by rw [hok.out, decide_eq_false (show ¬ c ≤ 1114111 by omega)]; simp
      refine ⟨_, _, rfl, hid ?_, hid ?_, Below.refl _ _⟩
      · unfold encL; rw [e]; rfl
      · unfold encE; rw [e]; rfl
  · go_enter Tryd.func19, Tryd.ntmps19
    go_wp2
    go_ret2
    have e : encOk c = false := by rw [hok.out, decide_eq_false (show ¬ 0 ≤ c by omega)]; rfl
    refine ⟨_, _, rfl, hid ?_, hid ?_, Below.refl _ _⟩
    · unfold encL; rw [e]; rfl
    · unfold encE; rw [e]; rfl

/-- the two tables of the decoder in the library -/
def TabsAt (w : World) : Prop := Lib.Utf8Tabs 0 1 w
theorem TabsAt.keep {w w' : World} (h : TabsAt w) (hb : Below w.heap.size w w') : TabsAt w' := by
  have h1 : 0 < w.heap.size := World.block_lt_of_cell? w _ (h.1 0 (by omega))
  have h2 : 1 < w.heap.size := World.block_lt_of_cell? w _ (h.2 0 (by omega)).1
  refine ⟨fun c hc => ?_, fun i hi => ⟨?_, ?_⟩⟩
  · rw [hb.cell (p := ⟨0, c, none⟩) h1]; exact h.1 c hc
  · rw [hb.cell (p := ⟨1, 2 * i, none⟩) h2]; exact (h.2 i hi).1
  · rw [hb.cell (p := ⟨1, 2 * i + 1, none⟩) h2]; exact (h.2 i hi).2
theorem decodeGo_eq (s : ByteArray) : ((Lib.decodeGo s).1, (Lib.decodeGo s).2) = if s.data.toList = [] then (65533, 0) else ((Lib.decodeL s.data.toList).1, (Lib.decodeL s.data.toList).2) := by
  unfold Lib.decodeGo
  have e : s.data.toList = [] ↔ s.size = 0 := by rw [← len_data, List.length_eq_zero_iff]
  by_cases h : s.size = 0
  · rw [if_pos h, if_pos (e.2 h)]
  · rw [if_neg h, if_neg (fun h' => h (e.1 h'))]
    unfold Lib.decodeL
    rw [Array.toArray_toList]

set_option maxHeartbeats 800000 in
theorem decode_any (s : ByteArray) (w : World) (hs : s.size ≤ 1099511627776) (hT : TabsAt w) :
    Calls Tryd.prog 21 #[.string s] w (RIntInt w (decC s.data.toList) (decN s.data.toList)) := by
  have hd := decodeGo_eq s
  obtain ⟨r, hr⟩ : ∃ r, (Lib.decodeGo s).1 = r := ⟨_, rfl⟩
  obtain ⟨n, hn⟩ : ∃ n, (Lib.decodeGo s).2 = n := ⟨_, rfl⟩
  have hr1 : r ≤ 1114111 := by
    rw [← hr]
    have := congrArg Prod.fst hd
    simp only at this
    rw [this]
    split
    · decide
    · exact Lib.decodeL_rune _
  have hcall := Tryd.utf8_DecodeRuneInString s w hT
  rw [hr, hn] at hcall
  rw [hr, hn] at hd
  have hC : Hid (decC s.data.toList = if r = 65533 ∧ n < 2 then -1 else (r : Int)) := hid (by
    unfold decC
    by_cases h : s.data.toList = []
    · rw [if_pos h] at hd ⊢
      cases hd; rfl
    · rw [if_neg h] at hd ⊢
      have hw := Lib.decodeL_width s.data.toList
      cases hd
      by_cases h2 : (Lib.decodeL s.data.toList).1 = 65533 ∧ (Lib.decodeL s.data.toList).2 = 1
      · rw [if_pos h2, if_pos ⟨h2.1, by omega⟩]
      · rw [if_neg h2, if_neg (fun h3 => h2 ⟨h3.1, by omega⟩)])
  have hN : Hid (decN s.data.toList = n) := hid (by
    unfold decN
    by_cases h : s.data.toList = []
    · rw [if_pos h] at hd ⊢; cases hd; rfl
    · rw [if_neg h] at hd ⊢; cases hd; rfl)
  have Hcall := hid hcall
  clear hcall hd hr hn
  go_enter Tryd.func21, Tryd.ntmps21
  go_wp2_with (go_at_call 57; refine Hcall.out.mono ?_; rintro e w1 ⟨rfl, hb1⟩)
  all_goals go_ret2
  all_goals refine ⟨_, _, rfl, hid ?_, hid ?_, hb1⟩
  all_goals first | (rw [hC.out, if_pos (by omega)]; done) | (rw [hC.out, if_neg (by omega)]; done) | (rw [hC.out, if_neg (by omega)]; omega) | (rw [hN.out]; done)

set_option maxHeartbeats 400000 in
theorem valid_any (s : ByteArray) (w : World) (hs : s.size ≤ 1099511627776) (hT : TabsAt w) :
    Calls Tryd.prog 22 #[.string s] w (RBool w (Lib.validD s.data.toList)) := by
  have Hcall := hid (Tryd.utf8_ValidString s w (by omega) hT)
  go_enter Tryd.func22, Tryd.ntmps22
  go_wp2_with (go_at_call 58; refine Hcall.out.mono ?_; rintro e w1 ⟨rfl, hb1⟩)
  go_ret
  exact ⟨_, rfl, hid rfl, hb1⟩

set_option maxHeartbeats 400000 in
theorem num02_any (n : Int) (w : World) : Calls Tryd.prog 20 #[.int .i64 n] w fun e w' => e = .returned (.int .i64 n) ∧ w = w' := by
  go_enter Tryd.func20, Tryd.ntmps20
  go_wp2
  go_ret
  exact ⟨rfl, rfl⟩

set_option maxHeartbeats 400000 in
theorem alive02_any (w : World) (hT : TabsAt w) : Calls Tryd.prog 18 #[] w fun e w' => e = .returned (.bool true) ∧ Below w.heap.size w w' := by
  have HT := hid hT
  clear hT
  go_enter Tryd.func18, Tryd.ntmps18
  go_wp2_with fail
  refine (encode_any _ (by omega) (by omega) _).mono ?_
  rintro e w1 ⟨t, r, rfl, ht, hr, hb1⟩
  obtain rfl : r = 0 := hr.out.trans (by decide)
  have hlen := len_data t
  have hts : t.size = 2 := by rw [← hlen, ht.out]; decide
  have Hts := hid hts
  have hz : ((t.size : Int) == 2) = true := by rw [hts]; rfl
  clear hlen hts
  go_wp2_with (go_at_call 20; refine (num02_any _ _).mono ?_; rintro e w2 ⟨rfl, rfl⟩)
  refine (valid_any _ _ (by rw [Hts.out]; omega) (HT.out.keep hb1)).mono ?_
  rintro e w3 ⟨r3, rfl, hr3, hb3⟩
  obtain rfl : r3 = true := by rw [hr3.out, ht.out]; exact valid_enc 233 (by decide)
  go_wp2
  go_ret
  exact ⟨by simp, then_ hb1 hb3⟩

set_option maxHeartbeats 800000 in
theorem utfBack_any (c : Int) (s : ByteArray) (w : World) (hc0 : -9223372036854775808 ≤ c) (hc1 : c ≤ 9223372036854775807) (hs : s.size ≤ 1048576) (hT : TabsAt w) :
    Calls Tryd.prog 4 #[.int .i64 c, .string s] w fun e w' => e = .returned (.bool true) ∧ Below w.heap.size w w' := by
  have HT := hid hT
  clear hT
  go_enter Tryd.func4, Tryd.ntmps4
  go_wp2_with fail
  refine (alive02_any _ HT.out).mono ?_
  rintro e w1 ⟨rfl, hb1⟩
  have HT1 := hid (HT.out.keep hb1)
  go_wp2_with fail
  refine (encode_any _ hc0 hc1 _).mono ?_
  rintro e w2 ⟨t, r, rfl, ht, hr, hb2⟩
  have HT2 := hid (HT1.out.keep hb2)
  cases hok : encOk c with
  | false =>
    obtain rfl : r = 4 := by rw [hr.out]; unfold encE; rw [hok]; rfl
    have ht0 : t.toList = [] := by rw [ByteArray.toList_eq, ht.out]; unfold encL; rw [hok]; rfl
    have hcc : c < 0 ∨ 1114111 < c ∨ (55296 ≤ c ∧ c ≤ 57343) := by have := of_decide_eq_false hok; omega
    clear hok
    go_wp2_with (go_at_call 20; refine (num02_any _ _).mono ?_; rintro e w3 ⟨rfl, rfl⟩)
    all_goals go_ret
    all_goals (refine ⟨ret_bool ?_, then_ hb1 hb2⟩)
    all_goals first | rfl | (simp; omega) | (simp [*]; omega) | (simp [*]; done)
  | true =>
    obtain rfl : r = 0 := by rw [hr.out]; unfold encE; rw [hok]; rfl
    have hl2 := len_data t
    have htl : t.data.toList = Lib.encodeRune c := by rw [ht.out]; unfold encL; rw [hok]; rfl
    have hts : t.size ≤ 4 := by rw [← hl2, htl]; exact (encodeRune_len c).2
    have Htl := hid htl
    have Hl2 := hid hl2
    have Hok := hid hok
    clear htl hl2 hok
    go_wp2_with (go_at_call 20; refine (num02_any _ _).mono ?_; rintro e w3 ⟨rfl, rfl⟩)
    refine (decode_any _ _ (by rw [ByteArray.size_append]; omega) HT2.out).mono ?_
    rintro e w3 ⟨d, n, rfl, hd, hn, hb3⟩
    have HT3 := hid (HT2.out.keep hb3)
    have hdc := decC_enc c s.data.toList Hok.out
    obtain rfl : d = c := by rw [hd.out, data_append, Htl.out, hdc.1]
    obtain rfl : n = (t.size : Int) := by rw [hn.out, data_append, Htl.out, hdc.2, ← Hl2.out, Htl.out]
    clear hdc
    go_wp2_with fail
    refine (valid_any _ _ (by omega) HT3.out).mono ?_
    rintro e w4 ⟨r4, rfl, hr4, hb4⟩
    obtain rfl : r4 = true := by rw [hr4.out, Htl.out]; exact valid_enc _ Hok.out
    go_wp2
    go_ret
    exact ⟨by simp, then_ (then_ (then_ hb1 hb2) hb3) hb4⟩
end Go.Proofs.YtihgmgpcdodknaaDoor
