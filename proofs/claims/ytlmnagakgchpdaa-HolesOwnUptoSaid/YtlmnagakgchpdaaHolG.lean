/- HolesOwn: what it returns. -/
import Derived.Test.YtlmnagakgchpdaaHolF
set_option linter.unusedVariables false
namespace Go.Proofs.Ytlmnagakgchpdaa
open Go.RowKit

set_option maxHeartbeats 1600000 in
theorem sameHoles_any (A A2 : Option Addr) (cap cap2 : Nat) (hs : List Hol) (w : World) (hn : hs.length ≤ 1048576) (B : Nat) (hR : HolsAt w B A hs) (hR2 : HolsAt w B A2 hs) (hB : B ≤ w.heap.size) :
    Calls Try.prog 11 #[.slice A hs.length cap, .slice A2 hs.length cap2] w fun e w' => e = .returned (.bool true) ∧ Below w.heap.size w w' := by
  have HR := hid hR
  have HR2 := hid hR2
  clear hR hR2
  obtain ⟨n, hnn⟩ : ∃ n, hs.length = n := ⟨_, rfl⟩
  have Hn := hid hnn
  rw [hnn] at hn ⊢
  clear hnn
  go_enter Try.func11, Try.ntmps11
  go_wp2
  go_loopw [5] (fun i wr => ∃ k : Nat, k ≤ n ∧ i = .int .i64 k ∧ Below w.heap.size w wr) (fun i _ => n - (intOf i).toNat)
  case atStart => exact ⟨0, Nat.zero_le _, rfl, Below.refl _ _⟩
  case round =>
    obtain ⟨k, hk, rfl, hbw⟩ := hrel
    by_cases hlt : k < n
    · have hkl : k < hs.length := by rw [Hn.out]; exact hlt
      obtain ⟨ad, rfl, hbl, hc0, hc1, hc2, hc3⟩ := HolsAt.at_ (w := wr) (B := B) (A := A) (HR.out.below (hbw.mono hB)) hkl
      obtain ⟨ad2, rfl, hbl2, hd0, hd1, hd2, hd3⟩ := HolsAt.at_ (w := wr) (B := B) (A := A2) (HR2.out.below (hbw.mono hB)) hkl
      obtain ⟨g, hg⟩ : ∃ g : Hol, hs[k] = g := ⟨_, rfl⟩
      rw [hg] at hc0 hc1 hc2 hc3 hd0 hd1 hd2 hd3
      clear hg hkl
      obtain ⟨f, t, e, y⟩ := g
      simp only at hc0 hc1 hc2 hc3 hd0 hd1 hd2 hd3
      have hss := str_self y
      have hk0 : (0 : Int) ≤ (k : Int) := by omega
      have hk1 : (k : Int) < (n : Int) := by omega
      go_wp2_with (go_quiet (fail))
      go_roundw
      case rel => exact ⟨k + 1, by omega, by go_num, below_drewN hbw _⟩
      case measure => simp [intOf]; omega
    · obtain rfl : k = n := by omega
      go_wp2
      go_ret
      exact ⟨rfl, hbw⟩

theorem OwnH.shape {w : World} {base : Nat} {v : Value} {l : List Hol} (h : OwnH w base v l) {k : Nat} (hk : l.length = k) : ∃ ad cap, v = .slice ad k cap := by
  subst hk
  rcases h.2 with ⟨rfl, h0⟩ | ⟨g, cap, cur, rfl, _⟩
  · exact ⟨none, 0, by rw [h0]⟩
  · exact ⟨_, _, rfl⟩
theorem OwnH.reads {w : World} {base : Nat} {A : Option Addr} {n cap : Nat} {l : List Hol} (h : OwnH w base (.slice A n cap) l) (hn : l.length = n) : HolsAt w w.heap.size A l := by
  unfold HolsAt
  unfold OwnH at h
  rw [hn] at h ⊢
  exact Reads.of_own h
/-- a row of holes, whatever they are -/
def Row (w : World) (base : Nat) (A : Option Addr) (n : Nat) : Prop := n = 0 ∨ ∃ (g : Nat) (cs : Array Value), A = some ⟨g, 0, none⟩ ∧ base ≤ g ∧ Blk w g 31 cs ∧ n * 4 ≤ cs.size
theorem OwnH.row {w : World} {base : Nat} {A : Option Addr} {n cap : Nat} {l : List Hol} (h : OwnH w base (.slice A n cap) l) (hn : l.length = n) : Row w base A n := by
  rcases h.2 with ⟨e, h0⟩ | ⟨g, c, cur, e, hb, hh, h1, h2, h3, _⟩
  · exact .inl (by omega)
  · injection e with e1 e2 e3
    subst e1
    refine .inr ⟨g, cur, rfl, hb, hh, ?_⟩
    rw [h3]; omega
theorem OwnH.bound {w : World} {base : Nat} {v : Value} {l : List Hol} (h : OwnH w base v l) : l.length ≤ 9223372036854775807 := by
  rcases h.2 with ⟨e, h0⟩ | ⟨g, c, cur, e, hb, hh, h1, h2, _⟩
  · rw [h0]; omega
  · unfold maxLen at h2; omega
theorem hols_one (hs : List Hol) : ∀ u ∈ holCells hs, u.oneCell' = true := by
  intro u hu
  simp only [holCells, List.mem_flatMap, Hol.cells] at hu
  obtain ⟨h, _, hu⟩ := hu
  simp only [List.mem_cons, List.not_mem_nil, or_false] at hu
  rcases hu with rfl | rfl | rfl | rfl <;> rfl

set_option maxRecDepth 100000 in
set_option maxHeartbeats 3200000 in
theorem holesOwn_any (s : ByteArray) (A : Option Addr) (cap : Nat) (hs : List Hol) (A2 : Option Addr) (cap2 : Nat) (by_ : List ByteArray) (w : World) (hsz : s.size ≤ 1048576) (hn : hs.length ≤ 1048576) (hfit : ∀ h ∈ hs, h.fits) (hR : HolsAt w w.heap.size A hs) (hbn : by_.length ≤ 1048576) (hby : ∀ t ∈ by_, t.size ≤ 1048576) (hR2 : TxtsAt w w.heap.size A2 by_) :
    Calls Try.prog 4 #[.string s, .slice A hs.length cap, .slice A2 by_.length cap2] w fun e w' => e = .returned (.bool true) ∧ Below w.heap.size w w' := by
  have HR := hid hR
  have HR2 := hid hR2
  have Hfill := hid (fun (W : World) (ad : Option Addr) (c : Nat) (h1 : HolsAt W W.heap.size ad hs) (h2 : TxtsAt W W.heap.size A2 by_) => fill_any s ad c hs A2 cap2 by_ W hsz hn hfit W.heap.size h1 h2 (Nat.le_refl _) hbn hby)
  have Hsame := hid (fun (W : World) (ad : Option Addr) (c B : Nat) (h1 : HolsAt W B ad hs) (h2 : HolsAt W B A hs) (h3 : B ≤ W.heap.size) => sameHoles_any ad A c cap hs W hn B h1 h2 h3)
  clear hR hR2 hfit hby
  obtain ⟨n, hnn⟩ : ∃ n, hs.length = n := ⟨_, rfl⟩
  have Hn := hid hnn
  rw [hnn] at hn Hfill Hsame ⊢
  clear hnn
  obtain ⟨n2, hnn2⟩ : ∃ n2, by_.length = n2 := ⟨_, rfl⟩
  have Hn2 := hid hnn2
  rw [hnn2] at hbn Hfill ⊢
  clear hnn2
  obtain ⟨i0, hi, hz0, hz1, hz2⟩ := info_parts info_hol
  go_enter Try.func4, Try.ntmps4
  go_wp2_with fail
  refine (alive33_any _).mono ?_
  rintro e w1 ⟨rfl, hb1⟩
  have hr1 : Reads w1 w.heap.size 4 A n (holCells hs) := by have := HR.out.below hb1; unfold HolsAt at this; rw [Hn.out] at this; exact this
  go_wp2_with (at_builtin; refine wpList_append_any _ rfl _ _ 22 rfl w1.heap.size 31 i0 _ 4 40 Try.underlying22 hi hz0 hz1 hz2 rfl (by omega) (.slice none 0 0) 0 [] rfl (World.ownsRow_nil _ _ _ _) w.heap.size A n _ (holCells hs) rfl hr1 (hols_one hs) (by unfold maxLen; omega) (by omega) (Nat.le_refl _) ?_; intro v' w2 hown2 hgr2 hat2)
  have hO2 : OwnH w2 w1.heap.size v' hs := by unfold OwnH; rw [Hn.out]; simpa using hown2
  obtain ⟨ad, c2, rfl⟩ := hO2.shape Hn.out
  have hb2 : Below w1.heap.size w1 w2 := (Below.refl _ _).grown hgr2 (Nat.le_refl _) (by simp [Value.ownBlock])
  have hbb2 := then_ hb1 hb2
  have HH2 := hid (hO2.reads Hn.out)
  have HT2 := hid ((HR2.out.below hbb2).more hbb2.size)
  clear hown2 hgr2 hat2 hO2 hr1 hi hz0 hz1 hz2
  go_wp2_with fail
  refine (Hfill.out _ ad c2 HH2.out HT2.out).mono ?_
  rintro e w3 ⟨t, M, m, c, r, rfl, hL, hb3⟩
  have hbb3 := then_ hbb2 hb3
  obtain ⟨L, hLm, hLO⟩ := hL.out
  have HRow := hid (hLO.row hLm)
  have hmb : m ≤ 9223372036854775807 := by rw [← hLm]; exact hLO.bound
  clear hL hLm hLO
  go_wp2
  go_loopw [11] (fun i wr => ∃ k : Nat, k ≤ m ∧ i = .int .i64 k ∧ Hid (Row wr w2.heap.size M m) ∧ Below w2.heap.size w2 wr) (fun i _ => m - (intOf i).toNat)
  case atStart => exact ⟨0, Nat.zero_le _, rfl, hid HRow.out, hb3⟩
  case round =>
    obtain ⟨k, hk, rfl, hRw, hbw⟩ := hrel
    have hbbw := then_ hbb2 hbw
    by_cases hlt : k < m
    · rcases hRw.out with h0 | ⟨g, cs, rfl, hg, hBk, hcs⟩
      · exact absurd h0 (by omega)
      · have hc := fun j (hj : k * 4 + j < cs.size) => (hBk.cell (k * 4 + j)).trans (Array.getElem?_eq_getElem hj)
        have c0 : wr.cell? ⟨g, k * 4, none⟩ = some cs[k * 4] := hc 0 (by omega)
        have c1 : wr.cell? ⟨g, k * 4 + 1, none⟩ = some cs[k * 4 + 1] := hc 1 (by omega)
        have c2' : wr.cell? ⟨g, k * 4 + 2, none⟩ = some cs[k * 4 + 2] := hc 2 (by omega)
        have c3 : wr.cell? ⟨g, k * 4 + 3, none⟩ = some cs[k * 4 + 3] := hc 3 (by omega)
        have f0 : wr.frozen? ⟨g, k * 4, none⟩ = false := hBk.frozen _
        have f1 : wr.frozen? ⟨g, k * 4 + 1, none⟩ = false := hBk.frozen _
        have f2 : wr.frozen? ⟨g, k * 4 + 2, none⟩ = false := hBk.frozen _
        have f3 : wr.frozen? ⟨g, k * 4 + 3, none⟩ = false := hBk.frozen _
        have HBk := hid hBk
        clear hc hBk
        go_wp2
        go_roundw
        case rel =>
          refine ⟨k + 1, by omega, by go_num, hid (.inr ⟨g, _, rfl, hg, (((HBk.out.set_ (k * 4) _).set_ (k * 4 + 1) _).set_ (k * 4 + 2) _).set_ (k * 4 + 3) _, ?_⟩), (((hbw.setCell (by show w2.heap.size ≤ g; omega) _).setCell (by show w2.heap.size ≤ g; omega) _).setCell (by show w2.heap.size ≤ g; omega) _).setCell (by show w2.heap.size ≤ g; omega) _⟩
          simp only [Array.size_setIfInBounds]
          exact hcs
        case measure => simp [intOf]; omega
    · obtain rfl : k = m := by omega
      go_wp2_with fail
      refine (Hsame.out _ ad c2 w2.heap.size (HH2.out.below hbw) ((HR.out.below hbbw).more hbb2.size) hbw.size).mono ?_
      rintro e w4 ⟨rfl, hb4⟩
      go_wp2
      go_ret
      exact ⟨rfl, then_ hbbw hb4⟩
end Go.Proofs.Ytlmnagakgchpdaa
