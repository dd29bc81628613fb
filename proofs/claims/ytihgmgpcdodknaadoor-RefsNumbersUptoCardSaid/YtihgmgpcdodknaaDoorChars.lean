/- utf.Chars, Count: slices.Collect over utf.each. -/
import Derived.Test.YtihgmgpcdodknaaDoorRep
import Derived.Maps.AppendAt
set_option linter.unusedVariables false
namespace Go.Proofs.YtihgmgpcdodknaaDoor
open Go.RowKit Go.Shelf
attribute [local go_sem] Oper.semAt_some

abbrev encI (x : Int) : Value := .int .i64 x
theorem info_int : (Tryd.prog.info? 3).map (fun i => (i.zero, i.size, i.bytes)) = some (some (.int .i64 0), 1, 8) := by kernel_rfl
/-- the value v owns, from block 'base' on, just the numbers l -/
def OwnI (w : World) (base : Nat) (v : Value) (l : List Int) : Prop := w.ownsRow base 3 1 v l.length (l.map encI)

set_option maxRecDepth 100000 in
set_option maxHeartbeats 2000000 in
theorem appendSeq_any (s : ByteArray) (w0 w : World) (bS : Nat) (hbx : Boxed w bS 9 (.string s)) (hT : TabsAt w0) (hs : s.size ≤ 137438953472) (h0 : w0.heap.size ≤ bS) (hb0 : Below w0.heap.size w0 w) :
    Calls Tryd.prog 87 #[.slice none 0 0, eachV bS] w fun e w' => ∃ v, e = .returned v ∧ OwnI w' w.heap.size v (charsL s.data.toList) ∧ Below w0.heap.size w0 w' := by
  obtain ⟨i0, hi, hz0, hz1, hz2⟩ := info_parts info_int
  refine (callsIn_wide (n := 6)).1 ?_
  refine callsIn_of_wp_marks Tryd.func87 rfl trivial ?_ rfl
  simp only [Tryd.ntmps87, List.size_toArray, List.length_cons, List.length_nil, Nat.reduceAdd, Nat.reduceSub, Array.replicate_succ, Array.replicate_zero, List.push_toArray, List.append_toArray, List.nil_append, List.cons_append]
  have hbl := hbx.lt
  gi_wp2
  have hbx1 := hbx.alloc (.cells #[.slice none 0 0] 37)
  have hbb := Boxed.new w 37 (.slice none 0 0)
  obtain ⟨W0, hW0⟩ : ∃ W0, w.alloc (.cells #[.slice none 0 0] 37) = W0 := ⟨_, rfl⟩
  have hsz : W0.heap.size = w.heap.size + 1 := by rw [← hW0]; simp
  have hbe : Below w0.heap.size w0 W0 := by rw [← hW0]; exact hb0.alloc hb0.size _
  rw [hW0] at hbx1 hbb ⊢
  clear hW0
  refine wpIn_range_each 6 (by omega) bS s (by omega) rfl hbx1 rfl
    (fun pre W => (∃ v, Boxed W w.heap.size 37 v ∧ W.ownsRow w.heap.size 3 1 v pre.length (pre.map encI) ∧ True) ∧ Below w0.heap.size w0 W ∧ w.heap.size ≤ W.heap.size)
    (OwnFrom.and (Own.from (holdsRow_own w.heap.size w.heap.size 37 3 1 (fun pre : List Int => pre.length) (fun pre : List Int => pre.map encI) (fun _ _ => True)) _) (OwnFrom.and (ownFrom_below (Nat.le_refl _) (by have := hb0.size; omega)) (fun s A B row hs hg hr => Nat.le_trans hs hg.size)))
    (fun pre A h => hT.keep h.2.1) (fun pre A u h => ?hset)
    (fun pre A B h hb => ?hbel) ⟨⟨_, hbb, World.ownsRow_nil _ _ _ _, trivial⟩, hbe, by omega⟩
    (fun x => { tmps := #[.slice none 0 0, eachV bS, .pointer (some ⟨w.heap.size, 0, none⟩), undef, .slice none 0 0, .int .i64 x, eachV bS, .int .i64 x, undef, undef, undef, undef, undef], defers := [] }) ?assign ?body ?done
  case hset =>
    obtain ⟨⟨v, hv, hr, _⟩, hb, hle⟩ := h
    refine ⟨⟨v, hv.kept (grownBy_setCell' A bS _) (by simp; omega), ownsRow_setCell_below hr hbl _, trivial⟩, hb.setCell (p := ⟨bS, 0, none⟩) h0 _, by simpa [World.setCell] using hle⟩
  case hbel =>
    obtain ⟨⟨v, hv, hr, _⟩, hb1, hle⟩ := h
    refine ⟨⟨v, (hb.block _ hv.lt).trans hv, ?_, trivial⟩, hb1.trans (hb.mono hb1.size), Nat.le_trans hle hb.size⟩
    refine World.ownsRow.kept (row := none) hr ⟨hb.os, hb.tape, hb.output, hb.size, fun k hk _ => hb.block k hk⟩ ?_
    cases h0 : v.ownBlock <;> simp
  case assign =>
    intro l x W K hK
    gi_wp2
    exact hK
  case body =>
    rintro l pre x W ⟨⟨v, hv, hrow, _⟩, hB, hle⟩ hbS hx hlen
    have hc1 := hv.cell
    have Hx := hid hx
    clear hx
    gi_wp2_with (gi_at_builtin; refine wpListIn_append_own _ rfl _ _ 37 rfl w.heap.size 3 i0 (.int .i64 0) 1 8 Tryd.underlying37 hi hz0 hz1 hz2 rfl (by decide) _ _ _ rfl (hrow.alloc _) ⟨W.heap.size, 0, none⟩ 1 1 [encI x] rfl rfl (cell_one_new _ _ _) (by simp [Value.oneCell']) (by unfold maxLen; omega) (by omega) (by simp; omega) ?_; intro v' w1 hown' hgrow _; obtain ⟨g', cap', rfl⟩ := ownsRow_succ hown'; obtain ⟨hv1, hv2, hr2, hk2, hb2⟩ := hv.appended (by decide) hrow hle (Nat.le_refl _) hown' hgrow; have hc1 := hv1.cell; have hf1 := hv1.frozen)
    refine ⟨hk2, hb2.block bS hbl, ⟨⟨_, hv2, ?_, trivial⟩, hB.trans (hb2.mono (by omega)), Nat.le_trans hle hk2.size⟩⟩
    simpa using hr2
  case done =>
    rintro D W hD ⟨⟨v, hv, hrow, _⟩, hB, hle⟩ hK
    have hc1 := hv.cell
    gi_wp2
    refine ⟨by simp, .inl ⟨_, _, rfl, run_takeDeferred hK, ?_⟩⟩
    refine ⟨_, results_tmp rfl _ _ _, v, rfl, ownsRow_putObj hrow _ hK rfl, ?_⟩
    exact hB.trans (belowK_b (w := w) hb0.size _ D _ _ (by omega) hK rfl rfl)
end Go.Proofs.YtihgmgpcdodknaaDoor
