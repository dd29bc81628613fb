/- (*strings.Builder).WriteString: what else lies in the world: blocks whose elements are no octets stay. -/
import Derived.Test.YtihgmgpcdodknaaDoorBld
set_option linter.unusedVariables false
namespace Go.Proofs.YtihgmgpcdodknaaDoor
open Go.RowKit

/-- but for block b and rows of octets the world is as it was -/
structure BelowT (b : Nat) (w w' : World) : Prop where
  size : w.heap.size ≤ w'.heap.size
  block : ∀ k cs t fr, w.heap[k]? = some (.cells cs t fr) → k ≠ b → t ≠ 5 → w'.heap[k]? = w.heap[k]?

theorem copyCheckT_any (b D : Nat) (l : List UInt8) (w : World) (h : Bld b D l w) :
    Calls Tryd.prog 89 #[.pointer (some ⟨b, 0, none⟩)] w fun e w' => e = .returned (.tuple #[]) ∧ b < D ∧ D ≤ w'.heap.size ∧ (∃ v, w'.heap[b]? = some (.cells #[.pointer (some ⟨b, 0, none⟩), v] 57 (0, 0)) ∧ OwnB w' D v l) ∧ BelowX b D w w' ∧ BelowT b w w' := by
  obtain ⟨h1, h2, p, v, h3, h4, h5⟩ := h
  have c0 : w.cell? ⟨b, 0, none⟩ = some p := by rw [Lib.cell_of_heap h3]; rfl
  rcases h4 with rfl | rfl
  · refine (copyCheck_fresh b w c0 (by simp [World.shape?, h3]) (Lib.frozen_of_heap h3 0)).mono ?_
    rintro e w' ⟨rfl, rfl⟩
    refine ⟨rfl, h1, by simpa [World.setCell] using h2, ⟨v, ?_, ownsRow_setCell_below h5 h1 _⟩, (BelowX.refl b D w).setCell (.inl rfl) _, ⟨by simp [World.setCell], fun k cs t fr hk hb ht => Below.heap_setCell _ _ _ _ (fun e => hb e)⟩⟩
    simp [World.setCell, Array.getElem?_modify, h3]
  · refine (copyCheck_used b w c0).mono ?_
    rintro e w' ⟨rfl, rfl⟩
    exact ⟨rfl, h1, h2, ⟨v, h3, h5⟩, BelowX.refl b D _, ⟨Nat.le_refl _, fun _ _ _ _ _ _ _ => rfl⟩⟩

set_option maxHeartbeats 2000000 in
set_option maxRecDepth 100000 in
theorem writeStringT_any (b D : Nat) (l : List UInt8) (s : ByteArray) (w : World) (h : Bld b D l w) (hlen : l.length + s.size ≤ 1099511627776) :
    Calls Tryd.prog 65 #[.pointer (some ⟨b, 0, none⟩), .string s] w fun e w' => e = .returned (.tuple #[.int .i64 s.size, .nilIface]) ∧ Bld b D (l ++ s.data.toList) w' ∧ BelowX b D w w' ∧ BelowT b w w' := by
  have HL := hid hlen
  go_enter Tryd.func65, Tryd.ntmps65
  go_wp2_with (go_at_call 89; refine (copyCheckT_any b D l _ h).mono ?_)
  rintro e w1 ⟨rfl, hb, hD, ⟨v, h3, hown⟩, hb1, hbt⟩
  have c1 : w1.cell? ⟨b, 1, none⟩ = some v := by rw [Lib.cell_of_heap h3]; rfl
  go_wp2_with (at_builtin; refine wpl_pushs rfl _ _ rfl D v l rfl hown s rfl HL.out hD ?_)
  intro v' w2 hown' hgr
  have hb2 : Below D w1 w2 := OwnB.below (Below.refl D w1) hD hown hgr
  have h32 : w2.heap[b]? = some (.cells #[.pointer (some ⟨b, 0, none⟩), v] 57 (0, 0)) := by rw [hb2.block b hb]; exact h3
  have d1 : w2.cell? ⟨b, 1, none⟩ = some v := by rw [Lib.cell_of_heap h32]; rfl
  have f1 : w2.frozen? ⟨b, 1, none⟩ = false := Lib.frozen_of_heap h32 1
  have HP := hid (Bld.put (l := l) hb hD h3 hown' hb2)
  have HT : Hid (BelowT b w w2) := hid ⟨Nat.le_trans hbt.size hb2.size, fun k cs t fr hk hkb ht => by
    have e1 := hbt.block k cs t fr hk hkb ht
    have hk1 : w1.heap[k]? = some (.cells cs t fr) := e1.trans hk
    have hlt : k < w1.heap.size := by
      rcases Nat.lt_or_ge k w1.heap.size with h | h
      · exact h
      · rw [Array.getElem?_eq_none h] at hk1; cases hk1
    refine (hgr.block k hlt (fun e => ?_)).trans e1
    rcases hown.2 with ⟨rfl, _⟩ | ⟨g, cap, cur, rfl, _, hh, _⟩
    · simp [Value.ownBlock] at e
    · have : g = k := by simpa [Value.ownBlock] using e.symm
      subst this
      rw [hh] at hk1
      injection hk1 with hk1
      injection hk1 with _ ht2
      exact ht ht2.symm⟩
  obtain ⟨ad, cap, rfl⟩ := hown'.shape
  clear hown'
  rw [List.length_append, len_data] at HP
  rw [List.length_append, len_data]
  go_wp2
  go_ret2
  exact ⟨rfl, HP.out, (hb1.trans (BelowX.of hb2)).setCell (.inl rfl) _, ⟨Nat.le_trans HT.out.size (by simp [World.setCell]), fun k cs t fr hk hkb ht => (Below.heap_setCell _ _ _ _ (fun e => hkb e)).trans (HT.out.block k cs t fr hk hkb ht)⟩⟩
end Go.Proofs.YtihgmgpcdodknaaDoor
