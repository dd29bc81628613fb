/- (*strings.Builder).WriteRune over a builder of the call's own. -/
import Derived.Test.YtihgmgpcdodknaaDoorBld
import Derived.Test.YtihgmgpcdodknaaDoorUtf
set_option linter.unusedVariables false
namespace Go.Proofs.YtihgmgpcdodknaaDoor
open Go.RowKit

set_option maxHeartbeats 2000000 in
set_option maxRecDepth 100000 in
theorem writeRune_any (b D : Nat) (l : List UInt8) (r : Int) (w : World) (h : Bld b D l w) (h0 : 0 ≤ r) (h1 : r ≤ 1114111) (hlen : l.length ≤ 1099511627776) :
    Calls Tryd.prog 62 #[.pointer (some ⟨b, 0, none⟩), .int .i32 r] w fun e w' => (∃ v, e = .returned v) ∧ Bld b D (l ++ Lib.encodeRune r) w' ∧ BelowX b D w w' ∧ KeepsOthers w w' := by
  have HL := hid hlen
  go_enter Tryd.func62, Tryd.ntmps62
  go_wp2_with (go_at_call 89; refine (copyCheck_any b D l _ h).mono ?_)
  rintro e w1 ⟨rfl, hb, hD, ⟨v, h3, hown⟩, hb1, hko⟩
  have c1 : w1.cell? ⟨b, 1, none⟩ = some v := by rw [Lib.cell_of_heap h3]; rfl
  obtain ⟨ad, cap, hv⟩ := hown.shape
  have hkw := hid (World.ownsRow.lt hown)
  have hcells : ∀ (j : Nat) (o : Obj), v.ownBlock = some j → w1.heap[j]? = some o → o.isCells = true := by
    intro j o hj ho
    rcases hown.2 with ⟨rfl, _⟩ | ⟨g, cp, cur, rfl, _, hgb, _⟩
    · simp [Value.ownBlock] at hj
    · have : g = j := by simpa [Value.ownBlock] using hj
      subst this; rw [hgb] at ho; cases ho; rfl
  have Hc := hid hcells
  clear hcells
  have hlen2 : ((l.length : Int)) ≤ 1099511627776 := by omega
  subst hv
  go_wp2_with fail
  refine (Tryd.utf8_AppendRune_plain D _ l.length (Lib.byteCells l) r (by omega) (by omega) _ hown (by omega) hD).mono ?_
  rintro e w2 ⟨v', rfl, hown', o, hg⟩
  rw [← Lib.byteCells_encodeRune, ← Lib.byteCells_append] at hown'
  have hO := OwnB.of hown' (by rw [Lib.byteCells_length, List.length_append])
  have hlt : b < w1.heap.size := by omega
  have hb2 : Below D w1 w2 := ((Below.refl D w1).alloc hD o).grown hg (by simp; omega) (fun k hk => hown.base k hk)
  have hko2 : KeepsOthers w1 w2 := (KeepsOthers.alloc w1 o).trans (KeepsOthers.of_grownBy hg (fun j o' hj ho => by
    have hjl : j < w1.heap.size := (hkw.out j hj).2
    rw [Below.heap_alloc _ _ _ hjl] at ho
    exact Hc.out j o' hj ho))
  have h32 : w2.heap[b]? = some (.cells #[.pointer (some ⟨b, 0, none⟩), .slice ad l.length cap] 57 (0, 0)) := by rw [hb2.block b hb]; exact h3
  have d1 : w2.cell? ⟨b, 1, none⟩ = some (.slice ad l.length cap) := by rw [Lib.cell_of_heap h32]; rfl
  have f1 : w2.frozen? ⟨b, 1, none⟩ = false := Lib.frozen_of_heap h32 1
  have HP := hid (Bld.put (l := l) hb hD h3 hO hb2)
  obtain ⟨ad', cap', rfl⟩ := hO.shape
  have d2 : (w2.setCell ⟨b, 1, none⟩ (.slice ad' (l ++ Lib.encodeRune r).length cap')).cell? ⟨b, 1, none⟩ = some (.slice ad' (l ++ Lib.encodeRune r).length cap') := World.cell?_setCell_same _ _ _ d1
  obtain ⟨m, hm⟩ : ∃ m, (l ++ Lib.encodeRune r).length = m := ⟨_, rfl⟩
  rw [hm] at HP hO d2 ⊢
  have hm2 : (m : Int) ≤ 2199023255552 ∧ (l.length : Int) ≤ m := by
    have := encodeRune_len r
    rw [List.length_append] at hm
    omega
  clear hown' hO hown hm
  go_wp2
  go_ret2
  exact ⟨⟨_, rfl⟩, HP.out, (hb1.trans (BelowX.of hb2)).setCell (.inl rfl) _, (hko.trans hko2).trans (KeepsOthers.setCell _ _ _)⟩
end Go.Proofs.YtihgmgpcdodknaaDoor
