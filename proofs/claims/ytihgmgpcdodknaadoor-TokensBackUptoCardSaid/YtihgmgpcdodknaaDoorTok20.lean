/- Tokens in memory, read; muslinlaw12's alive; plain facts of escaped texts. -/
import Derived.Test.YtihgmgpcdodknaaDoorTok19
import Derived.Test.YtihgmgpcdodknaaDoorRepU
set_option linter.unusedVariables false
namespace Go.Proofs.YtihgmgpcdodknaaDoor
open Go.RowKit

theorem tkcells_at {w : World} {base : Nat} : ∀ (L : List Tk) (cs : List Value), TkCells w base cs L → ∀ (i : Nat) (t : Tk), L[i]? = some t → ∃ va, cs[5 * i]? = some (.int .i64 t.k) ∧ cs[5 * i + 1]? = some (.string (bs t.n)) ∧ cs[5 * i + 2]? = some (.string (bs t.x)) ∧ cs[5 * i + 3]? = some va ∧ cs[5 * i + 4]? = some (.bool t.c) ∧ OwnA w base va t.ats
  | [], _, _, i, t, h => by simp at h
  | u :: r, cs, ⟨va, rest, e, ha, hr⟩, 0, t, h => by
    simp only [List.getElem?_cons_zero, Option.some.injEq] at h
    subst h; subst e
    exact ⟨va, rfl, rfl, rfl, rfl, rfl, ha⟩
  | u :: r, cs, ⟨va, rest, e, ha, hr⟩, i + 1, t, h => by
    simp only [List.getElem?_cons_succ] at h
    obtain ⟨vb, h0, h1, h2, h3, h4, h5⟩ := tkcells_at r rest hr i t h
    subst e
    refine ⟨vb, ?_, ?_, ?_, ?_, ?_, h5⟩
    · rw [show 5 * (i + 1) = 5 + 5 * i from by omega, List.getElem?_append_right (by simp)]; simpa using h0
    · rw [show 5 * (i + 1) + 1 = 5 + (5 * i + 1) from by omega, List.getElem?_append_right (by simp)]; simpa using h1
    · rw [show 5 * (i + 1) + 2 = 5 + (5 * i + 2) from by omega, List.getElem?_append_right (by simp)]; simpa using h2
    · rw [show 5 * (i + 1) + 3 = 5 + (5 * i + 3) from by omega, List.getElem?_append_right (by simp)]; simpa using h3
    · rw [show 5 * (i + 1) + 4 = 5 + (5 * i + 4) from by omega, List.getElem?_append_right (by simp)]; simpa using h4
theorem OwnT.shape {w : World} {base : Nat} {V : Value} {L : List Tk} (h : OwnT w base V L) (hL : L ≠ []) : ∃ g cap, V = .slice (some ⟨g, 0, none⟩) L.length cap ∧ g < w.heap.size := by
  obtain ⟨cs, hc, ho⟩ := h
  rcases ho.2 with ⟨_, h0⟩ | ⟨g, cap, cur, e, hb, hg, _⟩
  · exact absurd (List.eq_nil_of_length_eq_zero h0) hL
  · exact ⟨g, cap, e, Blk.lt (t := 53) (cs := cur) hg⟩
theorem OwnT.len {w : World} {base : Nat} {V : Value} {L : List Tk} (h : OwnT w base V L) {n : Nat} (hn : L.length = n) : ∃ A c, V = .slice A n c := by
  subst hn
  obtain ⟨cs, hc, ho⟩ := h
  rcases ho.2 with ⟨rfl, h0⟩ | ⟨g, cap, cur, e, _⟩
  · exact ⟨none, 0, by rw [h0]⟩
  · exact ⟨_, _, e⟩
theorem OwnT.at_ {w : World} {base g n cap : Nat} {L : List Tk} (h : OwnT w base (.slice (some ⟨g, 0, none⟩) n cap) L) {i : Nat} {t : Tk} (hi : L[i]? = some t) :
    ∃ va, w.cell? ⟨g, 5 * i, none⟩ = some (.int .i64 t.k) ∧ w.cell? ⟨g, 5 * i + 1, none⟩ = some (.string (bs t.n)) ∧ w.cell? ⟨g, 5 * i + 2, none⟩ = some (.string (bs t.x)) ∧ w.cell? ⟨g, 5 * i + 3, none⟩ = some va ∧ w.cell? ⟨g, 5 * i + 4, none⟩ = some (.bool t.c) ∧ OwnA w base va t.ats := by
  obtain ⟨cs, hc, ho⟩ := h
  obtain ⟨va, h0, h1, h2, h3, h4, h5⟩ := tkcells_at L cs hc i t hi
  have hcell := ho.cells (g := g) rfl
  have key : ∀ j u, cs[j]? = some u → w.cell? ⟨g, j, none⟩ = some u := fun j u hu => by have := hcell j u hu; cases j <;> simpa [Addr.add] using this
  exact ⟨va, key _ _ h0, key _ _ h1, key _ _ h2, key _ _ h3, key _ _ h4, h5⟩
theorem num12_any (n : Int) (w : World) : Calls Tryd.prog 15 #[.int .i64 n] w fun e w' => e = .returned (.int .i64 n) ∧ w' = w := by
  go_enter Tryd.func15, Tryd.ntmps15
  go_wp2
  go_ret
  exact ⟨rfl, rfl⟩
theorem toks_alive : toks [60, 112, 62, 97] = ([⟨1, [112], [], [], false⟩, ⟨3, [], [97], [], false⟩], 0) := by kernel_rfl
set_option maxRecDepth 100000 in
set_option maxHeartbeats 1600000 in
theorem alive12_any (w : World) (hm : MaxAt w) : Calls Tryd.prog 13 #[] w fun e w' => e = .returned (.bool true) ∧ Below w.heap.size w w' := by
  have Ht := hid (tokens_any ⟨#[60, 112, 62, 97]⟩ w (by decide) hm)
  rw [show (⟨#[60, 112, 62, 97]⟩ : ByteArray).data.toList = [60, 112, 62, 97] from rfl, toks_alive] at Ht
  have Hn := hid (fun W => num12_any 0 W)
  go_enter Tryd.func13, Tryd.ntmps13
  go_wp2_with fail
  refine Ht.out.mono ?_
  rintro e w1 ⟨V, rfl, hT, hb⟩
  obtain ⟨g, cap, rfl, hg⟩ := hT.shape (by simp)
  obtain ⟨va, -, a1, -, -, -, -⟩ := hT.at_ (i := 0) (t := ⟨1, [112], [], [], false⟩) rfl
  obtain ⟨vb, -, -, b2, -, -, -⟩ := hT.at_ (i := 1) (t := ⟨3, [], [97], [], false⟩) rfl
  have a1' : w1.cell? ⟨g, 1, none⟩ = some (.string ⟨#[112]⟩) := a1
  have b2' : w1.cell? ⟨g, 7, none⟩ = some (.string ⟨#[97]⟩) := b2
  clear a1 b2 hT
  go_wp2_with (go_at_call 15; refine (Hn.out _).mono ?_; rintro e w2 ⟨rfl, hw⟩; obtain rfl := hw)
  go_ret
  exact ⟨rfl, hb⟩

theorem esc_no (l : List UInt8) (d : UInt8) (hd : d = 60 ∨ d = 62 ∨ d = 34 ∨ d = 39) : d ∉ escL l := by
  intro h
  unfold escL escA at h
  obtain ⟨c, _, hc⟩ := List.mem_flatMap.1 h
  have := escB_clean c d hc
  rcases hd with rfl | rfl | rfl | rfl
  · exact this.1 rfl
  · exact this.2.1 rfl
  · exact this.2.2.1 rfl
  · exact this.2.2.2 rfl
theorem repair_ne (l : List UInt8) (h : l ≠ []) : repairL l ≠ [] := by
  unfold repairL
  rw [charsL_step l h]
  intro e
  have h1 : Lib.encodeRune (chrL l) ++ encAll (charsL (l.drop (decN l))) = [] := e
  exact encodeRune_ne _ (List.append_eq_nil_iff.1 h1).1
theorem esc_len (s t : ByteArray) (h : t.data.toList = escL s.data.toList) : t.size ≤ 20 * s.size := by
  have h1 := escA_len (repairL s.data.toList)
  have h2 := repairL_len s
  rw [← len_data, h]
  unfold escL
  omega

end Go.Proofs.YtihgmgpcdodknaaDoor
