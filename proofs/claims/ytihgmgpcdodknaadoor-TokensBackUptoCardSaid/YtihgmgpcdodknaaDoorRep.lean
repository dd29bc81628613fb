/- utf.Repair. -/
import Derived.Test.YtihgmgpcdodknaaDoorRange
import Derived.Test.YtihgmgpcdodknaaDoorRune
import Derived.Test.YtihgmgpcdodknaaDoorBstr
set_option linter.unusedVariables false
namespace Go.Proofs.YtihgmgpcdodknaaDoor
open Go.RowKit Go.Shelf
attribute [local go_sem] Oper.semAt_some

theorem Bld.own {n₀ : Nat} (b D : Nat) (f : List Int → List UInt8) : OwnFrom n₀ (fun pre W => Bld b D (f pre) W) := by
  rintro s W W' row ⟨h1, h2, p, v, h3, h4, h5⟩ hg hr
  refine ⟨h1, Nat.le_trans h2 hg.size, p, v, ?_, h4, ?_⟩
  · rw [hg.block b (by omega) (fun e => by
      obtain ⟨_, o, ho, hc⟩ := hr b e.symm
      rw [h3] at ho; cases ho; cases hc)]
    exact h3
  · refine World.ownsRow.kept h5 hg ?_
    rcases h5.2 with ⟨rfl, _⟩ | ⟨g, cap, cur, rfl, _, hgb, _⟩
    · exact .inl rfl
    · refine .inr fun e' => ?_
      obtain ⟨_, o, ho, hc⟩ := hr g (by simpa [Value.ownBlock] using e'.symm)
      rw [hgb] at ho; cases ho; cases hc
theorem Bld.setBelow {b D : Nat} {l : List UInt8} {w : World} (h : Bld b D l w) {p : Addr} (hp : p.block < D) (hne : b ≠ p.block) (v : Value) : Bld b D l (w.setCell p v) := by
  obtain ⟨h1, h2, q, u, h3, h4, h5⟩ := h
  exact ⟨h1, by simpa [World.setCell] using h2, q, u, (Below.heap_setCell _ _ _ _ hne).trans h3, h4, ownsRow_setCell_below h5 hp v⟩

set_option maxRecDepth 100000 in
set_option maxHeartbeats 2000000 in
theorem repair_any (s : ByteArray) (w : World) (hs : s.size ≤ 137438953472) (hT : TabsAt w) :
    Calls Tryd.prog 29 #[.string s] w (RStr w (repairL s.data.toList)) := by
  refine (callsIn_wide (n := 6)).1 ?_
  refine callsIn_of_wp_marks Tryd.func29 rfl trivial ?_ rfl
  simp only [Tryd.ntmps29, List.size_toArray, List.length_cons, List.length_nil, Nat.reduceAdd, Nat.reduceSub, Array.replicate_succ, Array.replicate_zero, List.push_toArray, List.append_toArray, List.nil_append, List.cons_append]
  gi_wp2_with fail
  refine ⟨trivial, ?_⟩
  refine (callsIn_wide.2 (each_any s _)).mono ?_
  rintro e w1 ⟨rfl, rfl⟩
  have hbx := Boxed.new (w.alloc (.cells #[.pointer none, .slice none 0 0] 57)) 9 (.string s)
  rw [World.size_alloc] at hbx ⊢
  obtain ⟨W0, hW0⟩ : ∃ W0, (w.alloc (.cells #[.pointer none, .slice none 0 0] 57)).alloc (.cells #[.string s] 9) = W0 := ⟨_, rfl⟩
  have hsz : W0.heap.size = w.heap.size + 2 := by rw [← hW0]; simp
  have hb0 : Below w.heap.size w W0 := by rw [← hW0]; exact ((Below.refl _ w).alloc (Nat.le_refl _) _).alloc (by simp) _
  have hbl : Bld w.heap.size (w.heap.size + 2) [] W0 := by
    refine Bld.fresh ?_ (by omega) (by omega)
    rw [← hW0, Below.heap_alloc _ _ _ (by simp)]
    exact heap_alloc_new w _
  rw [hW0] at hbx ⊢
  clear hW0
  gi_wp2
  refine wpIn_range_each 6 (by omega) (w.heap.size + 1) s (by omega) rfl hbx rfl
    (fun pre W => Bld w.heap.size (w.heap.size + 2) (encAll pre) W ∧ Below w.heap.size w W)
    (OwnFrom.and (Bld.own _ _ _) (ownFrom_below (Nat.le_refl _) (by omega)))
    (fun pre A h => ?_) (fun pre A u h => ⟨h.1.setBelow (p := ⟨w.heap.size + 1, 0, none⟩) (by simp) (by simp) _, h.2.setCell (p := ⟨w.heap.size + 1, 0, none⟩) (by simp) _⟩)
    (fun pre A B h hb => ⟨h.1.keep hb, h.2.trans (hb.mono h.2.size)⟩) ⟨hbl, hb0⟩
    (fun x => { tmps := #[.string s, undef, .string ⟨#[]⟩, .pointer (some ⟨w.heap.size, 0, none⟩), .int .i64 x, .string s, eachV (w.heap.size + 1), .int .i64 x, undef, undef, undef, undef], defers := [] }) ?assign ?body ?done
  · exact hT.keep h.2
  case assign =>
    intro l x W K hK
    gi_wp2
    exact hK
  case body =>
    rintro l pre x W ⟨hB, hb⟩ hbS hx hlen
    have hc := of_decide_eq_true hx
    have hr := writeRune_any w.heap.size (w.heap.size + 2) (encAll pre) x W hB (by omega) (by omega) (by have := encAll_len pre; omega)
    have Hr := hid hr
    clear hr hx
    have hx0 : 0 ≤ x ∧ x ≤ 1114111 := by omega
    clear hc
    gi_wp2_with fail
    refine ⟨trivial, CallsIn.inRound l ?_⟩
    refine (callsIn_wide.2 Hr.out).mono ?_
    rintro e w2 ⟨⟨v, rfl⟩, hB2, hb2, hk2⟩
    gi_wp2
    refine ⟨hk2, hb2.block (w.heap.size + 1) (by omega) (by omega), ?_, hb.trans (hb2.below (by omega))⟩
    show Bld _ _ (encAll (pre ++ [x])) _
    rw [encAll_snoc]; exact hB2
  case done =>
    rintro D W hD ⟨hB, hb⟩ hK
    gi_wp2_with fail
    refine ⟨trivial, ?_⟩
    refine (callsIn_wide.2 (bstrK_any _ _ _ _ hB)).mono ?_
    rintro e w2 ⟨rfl, hb2, hk2⟩
    have hK2 := hk2.same _ _ hK rfl
    gi_wp2
    refine ⟨by simp, .inl ⟨_, _, rfl, run_takeDeferred hK2, ?_⟩⟩
    refine ⟨_, results_tmp rfl _ _ _, _, rfl, hid rfl, ?_⟩
    exact (hb.trans (hb2.mono (by omega))).trans (belowK_b (w := w) (Nat.le_refl _) _ D _ _ (by omega) hK2 rfl rfl)
end Go.Proofs.YtihgmgpcdodknaaDoor
