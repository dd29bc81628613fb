/- The law ShapeTells: its walk. -/
import Derived.Test.YtihgmgpcdodknaaAlv
import Derived.Test.YtihgmgpcdodknaaRdr
set_option linter.unusedVariables false
namespace Go.Proofs.Ytihgmgpcdodknaa
open Go.RowKit

theorem toks_err (s : List UInt8) (h : (toks s).2 ≠ 0) : (toks s).1 = [] := by
  rw [← refT_toks] at h ⊢
  unfold refT at h ⊢
  split
  · rfl
  · split
    · rfl
    · rename_i h1 h2
      rw [if_neg h1, if_neg h2] at h
      exact absurd rfl h
theorem shpS_eq (s : List UInt8) : shpS (toks s) = shapeL (toks s).1 := by
  unfold shpS
  split
  · rfl
  · rename_i h
    rw [toks_err s h]; rfl
set_option maxRecDepth 100000 in
set_option maxHeartbeats 6400000 in
theorem shapeTells_w (s : ByteArray) (A : Option Addr) (c : Nat) (M : List Tk) (w : World) (hs : s.size ≤ 1048576) (hll : M.length ≤ 1048576) (hV : TkA w w.heap.size (.slice A M.length c) M) (hf : ∀ t ∈ M, t.ats.length ≤ 1048576) (hm : MaxAt w) :
    Calls Try.prog 8 #[.string s, .slice A M.length c] w fun e w' => e = .returned (.bool true) ∧ Below w.heap.size w w' := by
  have Hal := hid (fun W (hM : MaxAt W) => alive32_any W hM)
  have Hsh := hid (shapeS_any s w (by omega) hm)
  have Href := hid (fun W => refTokens_any s W (by omega))
  have Hl1 := hid (toks_ats s.data.toList)
  have Hl2 := hid (toks_len s.data.toList)
  have Hm := hid hm
  have HV := hid hV
  have Hf := hid hf
  have Hll := hid hll
  rw [shpS_eq] at Hsh
  obtain ⟨r, hr⟩ : ∃ r, toks s.data.toList = r := ⟨_, rfl⟩
  rw [hr] at Hsh Hl1 Hl2
  rw [refT_toks, hr] at Href
  obtain ⟨L, ec⟩ := r
  have Hn := hid (fun W => num32_any ec W)
  obtain ⟨n, hn⟩ : ∃ n, M.length = n := ⟨_, rfl⟩
  rw [hn] at HV ⊢
  clear hr hm hV hf hll hn
  go_enter Try.func8, Try.ntmps8
  go_wp2_with fail
  refine Hsh.out.mono ?_
  rintro e w1 ⟨Va, rfl, hTa, hb1⟩
  have HTa := hid hTa
  have Hb1 := hid hb1
  clear hTa hb1
  go_wp2_with fail
  refine (Href.out _).mono ?_
  rintro e w2 ⟨Vb, rfl, hTb, hb2⟩
  have HTb := hid hTb
  have Hb12 := hid (Hb1.out.trans (hb2.mono Hb1.out.size))
  have Hb2 := hid hb2
  clear hTb hb2
  have Hrs := hid (refShape_any L Vb w2 (fun t ht => Nat.le_trans (Hl1.out t ht) (by omega)) (Nat.le_trans Hl2.out (by omega)) (TkA.of_own HTb.out))
  go_wp2_with (go_at_call 26; refine (Hn.out _).mono ?_; rintro e w2' ⟨rfl, hw⟩; obtain rfl := hw)
  refine Hrs.out.mono ?_
  rintro e w3 ⟨Vc, rfl, hTc, hb3⟩
  have HTc := hid hTc
  have Hb3 := hid hb3
  have Hb13 := hid (Hb12.out.trans (hb3.mono Hb12.out.size))
  clear hTc hb3
  have Hs1 := hid (sameAll_any (shapeL L) (shapeL L) Va Vc w3 (((((TkA.of_own HTa.out).below Hb2.out).more Hb2.out.size).below Hb3.out).more Hb3.out.size) (TkA.of_own HTc.out) HTa.out.ats_le HTa.out.len_le)
  rw [(tksEq_iff (shapeL L) (shapeL L)).2 rfl] at Hs1
  go_wp2_with fail
  refine Hs1.out.mono ?_
  rintro e w4 ⟨rfl, hb4⟩
  have Hb14 := hid (Hb13.out.trans (hb4.mono Hb13.out.size))
  clear hb4
  have Hof := hid (of_any M (.slice A n c) w4 (fun t ht => Nat.le_trans (Hf.out t ht) (by omega)) (Nat.le_trans Hll.out (by omega)) ((HV.out.below Hb14.out).more Hb14.out.size))
  go_wp2_with fail
  refine Hof.out.mono ?_
  rintro e w5 ⟨Vd, rfl, hTd, hb5⟩
  have HTd := hid hTd
  have Hb15 := hid (Hb14.out.trans (hb5.mono Hb14.out.size))
  clear hTd hb5
  have Hrs2 := hid (refShape_any M (.slice A n c) w5 (fun t ht => Nat.le_trans (Hf.out t ht) (by omega)) (Nat.le_trans Hll.out (by omega)) ((HV.out.below Hb15.out).more Hb15.out.size))
  go_wp2_with fail
  refine Hrs2.out.mono ?_
  rintro e w6 ⟨Ve, rfl, hTe, hb6⟩
  have HTe := hid hTe
  have Hb6 := hid hb6
  have Hb16 := hid (Hb15.out.trans (hb6.mono Hb15.out.size))
  clear hTe hb6
  have Hs2 := hid (sameAll_any (shapeL M) (shapeL M) Vd Ve w6 (((TkA.of_own HTd.out).below Hb6.out).more Hb6.out.size) (TkA.of_own HTe.out) HTd.out.ats_le HTd.out.len_le)
  rw [(tksEq_iff (shapeL M) (shapeL M)).2 rfl] at Hs2
  go_wp2_with fail
  refine Hs2.out.mono ?_
  rintro e w7 ⟨rfl, hb7⟩
  have Hb17 := hid (Hb16.out.trans (hb7.mono Hb16.out.size))
  clear hb7
  go_wp2_with fail
  refine (Hal.out _ (Hm.out.keep Hb17.out)).mono ?_
  rintro e w8 ⟨rfl, hb8⟩
  have Hb18 := hid (Hb17.out.trans (hb8.mono Hb17.out.size))
  go_wp2_with fail
  go_ret
  exact ⟨rfl, Hb18.out⟩
end Go.Proofs.Ytihgmgpcdodknaa
