/- The law TokensPlain: its walk. -/
import Derived.Test.YtihgmgpcdodknaaTok20
set_option linter.unusedVariables false
namespace Go.Proofs.Ytihgmgpcdodknaa
open Go.RowKit

set_option maxRecDepth 100000 in
set_option maxHeartbeats 20000000 in
theorem tokensPlain_any (s : ByteArray) (w : World) (hs : s.size ≤ 1048576) (hm : MaxAt w) :
    Calls Try.prog 4 #[.string s] w fun e w' => e = .returned (.bool true) ∧ Below w.heap.size w w' := by
  have Hal := hid (alive12_any w hm)
  have Hm := hid hm
  have Hs := hid hs
  have Hes := hid (fun W => refEscape06_any s W (by omega))
  have Hrp := hid (fun W => refRepair_any s W (by omega))
  have Htk := hid (fun (t : ByteArray) W (ht : t.size ≤ 1099511627776) (hM : MaxAt W) => tokens_any t W ht hM)
  have Hn := hid (fun n W => num12_any n W)
  clear hm hs
  go_enter Try.func4, Try.ntmps4
  go_wp2_with fail
  refine Hal.out.mono ?_
  rintro e w1 ⟨rfl, hb1⟩
  go_wp2_with fail
  refine (Hes.out _).mono ?_
  rintro e w2 ⟨t, rfl, ht, hb2⟩
  have Ht20 := hid (esc_len s t ht.out)
  have hb12 := hb1.trans (hb2.mono hb1.size)
  have Hmx := hid (Hm.out.keep hb12)
  have Htz : Hid (t.size ≤ 1099511627776) := hid (by have := Ht20.out; have := Hs.out; omega)
  go_wp2_with fail
  refine (Htk.out t w2 Htz.out Hmx.out).mono ?_
  rintro e w3 ⟨V, rfl, hT, hb3⟩
  have hbB := hid (hb12.trans (hb3.mono hb12.size))
  by_cases hbig : t.size ≤ 65536
  · have hbi : ¬ (65536 : Int) < (t.size : Int) := by omega
    have Hpl : Hid (toks t.data.toList = (if repairL s.data.toList = [] then [] else [⟨3, [], repairL s.data.toList, [], false⟩], 0)) := hid (by
      rw [toks_plain _ (by rw [ht.out]; exact esc_no _ 60 (.inl rfl)) (by rw [len_data]; exact hbig), ht.out, dec_esc])
    rw [Hpl.out] at hT ⊢
    simp only
    by_cases h0 : s.size = 0
    · obtain rfl := empty_of h0
      rw [if_pos (show repairL (⟨#[]⟩ : ByteArray).data.toList = [] from rfl)] at hT
      obtain ⟨A, c, rfl⟩ := hT.len (n := 0) rfl
      clear hT
      go_wp2_with (go_quiet ((go_at_call 19; exact Calls.quiet_of_same (Hn.out _ _))))
      go_ret
      exact ⟨rfl, hbB.out.trans (below_dN _ _ _)⟩
    · have hne : s.data.toList ≠ [] := fun e => h0 (by rw [← len_data, e]; rfl)
      rw [if_neg (repair_ne _ hne)] at hT
      obtain ⟨g, cap, rfl, hg⟩ := hT.shape (by simp)
      obtain ⟨va, a0, -, a2, -, -, -⟩ := hT.at_ (i := 0) (t := ⟨3, [], repairL s.data.toList, [], false⟩) rfl
      have a0' : w3.cell? ⟨g, 0, none⟩ = some (.int .i64 3) := a0
      obtain ⟨x, hx⟩ : ∃ x, bs (repairL s.data.toList) = x := ⟨_, rfl⟩
      have a2' : w3.cell? ⟨g, 2, none⟩ = some (.string x) := by rw [← hx]; exact a2
      have Hx := hid hx
      have hsn := str_nil_ne s h0
      have hemp : s.toList.isEmpty = false := by
        rw [ByteArray.toList_eq]
        cases e : s.data.toList with
        | nil => exact absurd e hne
        | cons _ _ => rfl
      clear a0 a2 hT hx hne
      go_wp2_with fail
      refine wp_region_noPanic ?_
      first
      | (go_region_law (first
        | (go_simp; go_at_call 19; refine (Hn.out _ _).mono ?_; rintro e w2 ⟨rfl, hw⟩; obtain rfl := hw; dsimp only)
        | (go_simp; go_at_call 20; refine (Hrp.out _).mono ?_; rintro e' w' ⟨y, rfl, hy, hbk⟩; have hxy : (x.toList == y.toList) = true := (by rw [ByteArray.toList_eq, ByteArray.toList_eq, hy.out, ← Hx.out, bs_list]; simp); have d2 := cell_aft (v := .string x) hbk hg a2'; dsimp only)))
      | fail
      all_goals
        refine NoPanic.normal ?_
        go_wp2
        go_ret
        exact ⟨by first | kernel_rfl | rfl | simp [*, Act.put], hbB.out.trans ((((Below.refl _ _).drew).trans hbk).mono hbB.out.size)⟩
  · have hbi : (65536 : Int) < (t.size : Int) := by omega
    rw [toks_long _ (by rw [len_data]; exact hbig)]
    simp only
    go_wp2_with (go_at_call 19; refine (Hn.out _ _).mono ?_; rintro e w2 ⟨rfl, hw⟩; obtain rfl := hw)
    go_ret
    exact ⟨rfl, hbB.out⟩
end Go.Proofs.Ytihgmgpcdodknaa
