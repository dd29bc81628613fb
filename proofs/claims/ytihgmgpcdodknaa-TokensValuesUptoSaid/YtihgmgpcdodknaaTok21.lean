/- The law TokensValues: its walk. -/
import Derived.Test.YtihgmgpcdodknaaTok20
set_option linter.unusedVariables false
namespace Go.Proofs.Ytihgmgpcdodknaa
open Go.RowKit

theorem OwnA.shape {w : World} {base : Nat} {v : Value} {l : List Att} (h : OwnA w base v l) (hl : l ≠ []) : ∃ g cap, v = .slice (some ⟨g, 0, none⟩) l.length cap ∧ g < w.heap.size ∧ ∀ j u, (attCells l)[j]? = some u → w.cell? ⟨g, j, none⟩ = some u := by
  rcases h.2 with ⟨_, h0⟩ | ⟨g, cap, cur, e, hb, hg, _⟩
  · exact absurd (List.eq_nil_of_length_eq_zero h0) hl
  · refine ⟨g, cap, e, Blk.lt (t := 39) (cs := cur) hg, fun j u hu => ?_⟩
    have := World.ownsRow.cells h (g := g) (by rw [e]; rfl) j u hu
    cases j <;> simpa [Addr.add] using this
set_option maxRecDepth 100000 in
set_option maxHeartbeats 6400000 in
theorem tokensValues_any (s : ByteArray) (w : World) (hs : s.size ≤ 1048576) (hm : MaxAt w) :
    Calls Try.prog 5 #[.string s] w fun e w' => e = .returned (.bool true) ∧ Below w.heap.size w w' := by
  have Hal := hid (alive12_any w hm)
  have Hm := hid hm
  have Hs := hid hs
  have Hes := hid (fun W => refEscape06_any s W (by omega))
  have Hrp := hid (fun W => refRepair_any s W (by omega))
  have Htk := hid (fun (t : ByteArray) W (ht : t.size ≤ 1099511627776) (hM : MaxAt W) => tokens_any t W ht hM)
  have Hn := hid (fun n W => num12_any n W)
  clear hm hs
  go_enter Try.func5, Try.ntmps5
  go_wp2_with fail
  refine Hal.out.mono ?_
  rintro e w1 ⟨rfl, hb1⟩
  go_wp2_with fail
  refine (Hes.out _).mono ?_
  rintro e w2 ⟨t0, rfl, ht, hb2⟩
  have Ht20 := hid (esc_len s t0 ht.out)
  have hb12 := hb1.trans (hb2.mono hb1.size)
  have Hmx := hid (Hm.out.keep hb12)
  have hct1 : ¬ 9223372036854775807 < 10 + t0.size := by have := Ht20.out; have := Hs.out; omega
  have hct2 : ¬ 9223372036854775807 < 10 + t0.size + 5 := by have := Ht20.out; have := Hs.out; omega
  obtain ⟨t, htt⟩ : ∃ t : ByteArray, (⟨#[60, 98, 62, 120, 60, 112, 32, 97, 61, 34]⟩ ++ t0 ++ ⟨#[34, 32, 99, 62, 121]⟩ : ByteArray) = t := ⟨_, rfl⟩
  have Htt : Hid (t.data.toList = preV ++ escL s.data.toList ++ postV) := hid (by rw [← htt, data_append, data_append, ht.out]; rfl)
  have Htz : Hid (t.size ≤ 1099511627776) := hid (by
    rw [← htt, ByteArray.size_append, ByteArray.size_append]
    have h1 : (⟨#[60, 98, 62, 120, 60, 112, 32, 97, 61, 34]⟩ : ByteArray).size = 10 := rfl
    have h2 : (⟨#[34, 32, 99, 62, 121]⟩ : ByteArray).size = 5 := rfl
    have := Ht20.out; have := Hs.out; omega)
  go_wp2_with fail
  clear htt hct1 hct2
  refine (Htk.out t w2 Htz.out Hmx.out).mono ?_
  rintro e w3 ⟨V, rfl, hT, hb3⟩
  have hbB := hid (hb12.trans (hb3.mono hb12.size))
  by_cases hbig : t.size ≤ 65536
  · have hbi : ¬ (65536 : Int) < (t.size : Int) := by omega
    have Hpl : Hid (toks t.data.toList = ([⟨1, [98], [], [], false⟩, ⟨3, [], [120], [], false⟩, ⟨1, [112], [], [([97], repairL s.data.toList), ([99], [])], false⟩, ⟨3, [], [121], [], false⟩], 0)) := hid (by
      have hl : (preV ++ escL s.data.toList ++ postV).length ≤ 65536 := by rw [← Htt.out, len_data]; exact hbig
      rw [Htt.out, toks_values _ (esc_no _ 34 (.inr (.inr (.inl rfl)))) hl, dec_esc])
    rw [Hpl.out] at hT ⊢
    simp only
    obtain ⟨g, cap, rfl, hg⟩ := hT.shape (by simp)
    obtain ⟨va, -, -, -, a3, -, hA⟩ := hT.at_ (i := 2) (t := ⟨1, [112], [], [([97], repairL s.data.toList), ([99], [])], false⟩) rfl
    obtain ⟨vb, -, -, b2, -, -, -⟩ := hT.at_ (i := 3) (t := ⟨3, [], [121], [], false⟩) rfl
    obtain ⟨ga, capa, rfl, hga, hcA⟩ := OwnA.shape hA (by simp)
    obtain ⟨x, hx⟩ : ∃ x, bs (repairL s.data.toList) = x := ⟨_, rfl⟩
    have q1 : w3.cell? ⟨ga, 1, none⟩ = some (.string x) := by rw [← hx]; exact hcA 1 _ rfl
    have q2 : w3.cell? ⟨ga, 2, none⟩ = some (.string ⟨#[99]⟩) := hcA 2 _ rfl
    have a3' : w3.cell? ⟨g, 13, none⟩ = some (.slice (some ⟨ga, 0, none⟩) 2 capa) := a3
    have b2' : w3.cell? ⟨g, 17, none⟩ = some (.string ⟨#[121]⟩) := b2
    have Hx := hid hx
    clear a3 b2 hT hx hA hcA
    go_wp2_with fail
    go_region_held3 (fun w' => w'.cell? ⟨ga, 1, none⟩ = some (.string x) ∧ w'.cell? ⟨ga, 2, none⟩ = some (.string ⟨#[99]⟩) ∧ w'.cell? ⟨g, 13, none⟩ = some (.slice (some ⟨ga, 0, none⟩) 2 capa) ∧ w'.cell? ⟨g, 17, none⟩ = some (.string ⟨#[121]⟩) ∧ Below w3.heap.size w3 w' ∧ g < w'.heap.size ∧ ga < w'.heap.size)
      (first
        | exact ⟨q1, q2, a3', b2', (Below.refl _ _).drew, hg, hga⟩
        | (go_split_ands
           exact ⟨cell_aft hbk (by assumption) (by assumption), cell_aft hbk (by assumption) (by assumption), cell_aft hbk (by assumption) (by assumption), cell_aft hbk (by assumption) (by assumption), (by assumption : Below w3.heap.size w3 _).trans (hbk.mono (by assumption : Below w3.heap.size w3 _).size), size_aft hbk (by assumption), size_aft hbk (by assumption)⟩)
        | go_keep)
      (first
        | (go_at_call 19; refine (Hn.out _ _).mono ?_; rintro e w2 ⟨rfl, hw⟩; obtain rfl := hw)
        | (go_at_call 20; refine (Hrp.out _).mono ?_; rintro e' w' ⟨y, rfl, hy, hbk⟩; have hxy : (x.toList == y.toList) = true := (by rw [ByteArray.toList_eq, ByteArray.toList_eq, hy.out, ← Hx.out, bs_list]; simp)))
    all_goals
      go_split_ands
      have HB := hid (by assumption : Below w3.heap.size w3 _)
      go_wp2
      go_ret
      exact ⟨by simp [*], hbB.out.trans (HB.out.mono hbB.out.size)⟩
  · have hbi : (65536 : Int) < (t.size : Int) := by omega
    rw [toks_long _ (by rw [len_data]; exact hbig)]
    simp only
    go_wp2_with (go_at_call 19; refine (Hn.out _ _).mono ?_; rintro e w2 ⟨rfl, hw⟩; obtain rfl := hw)
    go_ret
    exact ⟨rfl, hbB.out⟩
end Go.Proofs.Ytihgmgpcdodknaa
