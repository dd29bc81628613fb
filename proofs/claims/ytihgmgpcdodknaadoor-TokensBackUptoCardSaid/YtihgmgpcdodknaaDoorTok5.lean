/- The reader's attrs: the pass from label 5. -/
import Derived.Test.YtihgmgpcdodknaaDoorTok4
set_option linter.unusedVariables false
namespace Go.Proofs.YtihgmgpcdodknaaDoor
open Go.RowKit

set_option maxRecDepth 100000 in
set_option maxHeartbeats 3200000 in
theorem pass5 (base R T A : Nat) (s : ByteArray) (k : Nat) (V : Value) (L : List Tk) (kd : Int) (tn : ByteArray) (w0 : World) (Rz : Option (List Att × Bool × List UInt8)) (F : Fix base R T s k V L w0) (N : Nat) (Q : Exit → Act → World → Prop)
    (hQ : jumps (fun l' a' w' => JA w0 R T A s V kd tn Rz l' a' w' ∧ muA R s l' w' < N) (bodyPost Tryd.prog Tryd.f103 (AtPost base R T s V L kd tn w0 Rz)) = Q)
    (a : Act) (ha : ∃ u, a = frA R T A u) (W : World) (m : Nat) (VA : Value) (ats : List Att) (x y : List UInt8) (C : Co w0 W R T A s m V kd tn VA ats x y) (hm : m ≤ s.size) (hl : AtL s Rz m ats x y 5) (hN : 4 * (s.size - m) + 5 ≤ N) :
    Code.wp Tryd.prog (codeL Tryd.f103 5) Q a W := by
  obtain ⟨u, rfl⟩ := ha
  unfold frA
  simp only [codeL, inScp, aftLb, codeA, Tryd.f103, findLabel, Nat.reduceBEq, Bool.false_eq_true, ↓reduceIte]
  subst hQ
  obtain ⟨hy, has, hz⟩ := hl
  subst hy
  have HC := hid C
  have HF := hid F
  have Hz := hid hz
  obtain ⟨n, hn⟩ : ∃ n, ats.length = n := ⟨_, rfl⟩
  have hs0 := F.hs
  have hn4 : n ≤ 65536 := by omega
  have hm1 : (1 : Int) ≤ (m : Int) := by omega
  obtain ⟨An, nn, cn, rfl⟩ : ∃ Aa na ca, VA = .slice Aa na ca := by
    rcases C.own.2 with ⟨rfl, _⟩ | ⟨g, cap, cur, rfl, _⟩
    · exact ⟨none, 0, 0, rfl⟩
    · exact ⟨_, _, _, rfl⟩
  have hown : W.ownsRow (A + 1) 95 2 (.slice An nn cn) n (attCells ats) := by rw [← hn]; exact C.own
  have hnn : nn = n := by
    rcases hown.2 with ⟨h1, h2⟩ | ⟨g, cap, cur, h1, _⟩
    · injection h1 with e1 e2 e3; omega
    · injection h1
  subst hnn
  obtain ⟨bx, hbx⟩ : ∃ bx, bs x = bx := ⟨_, rfl⟩
  have a0 := C.a0
  have a1 := C.a1
  have t3 := C.t3
  have c1 := C.c1
  have ft : W.frozen? ⟨T, 3, none⟩ = false := C.t.frozen 3
  have fr1 : W.frozen? ⟨R, 1, none⟩ = false := C.r.frozen 1
  have hlo := C.lo
  have hneT := own_blk_ne C.own C.t (by decide)
  have hAlt : A < W.heap.size := C.a.lt
  have hTlt : T < W.heap.size := C.t.lt
  have hRlt : R < W.heap.size := C.r.lt
  rw [hbx] at a0
  rw [show bs ([] : List UInt8) = ⟨#[]⟩ from rfl] at a1
  have Hbx := hid hbx
  have Hn := hid hn
  have Hown := hid hown
  obtain ⟨i0, hi, hz0, hz1, hz2⟩ := info_parts info_at
  clear C hz hn hbx F
  go_wp2_with fail
  have t3a : (W.alloc (.cells #[.string bx, .string ⟨#[]⟩] 95)).cell? ⟨T, 3, none⟩ = some (.slice An nn cn) := (World.cell?_alloc_lt _ _ _ hTlt).trans t3
  refine wp_region_noPanic ?_
  go_region_law
    ((refine step_append_lies _ (by rfl) _ _ _ (by rfl) (A + 1) 95 i0 _ 2 32 Tryd.underlying51 hi hz0 hz1 hz2 rfl (by omega) (.slice An nn cn) nn (attCells ats) (by rfl) ((hown.alloc _).drew)
        ⟨W.heap.size, 0, none⟩ 1 1 [.string bx, .string ⟨#[]⟩] (by rfl) (by rfl) (World.news_of_block (cs := #[.string bx, .string ⟨#[]⟩]) (t := 95) (fr := (0, 0)) (heap_alloc_new W _)) (by simp [Value.oneCell'])
        (by omega) (by unfold maxLen; omega) (by omega) (by simp; omega) (W.heap.size + 1) (by simp) ?_; intro gg cap w3 hown3 hgrow hat hlt3
      have e0 : w3.cell? ⟨T, 3, none⟩ = some (.slice An nn cn) := ((hgrow.cell_far _ (by simp; omega) (Ne.symm hneT)).trans ((World.cell?_alloc_lt _ _ _ hTlt).trans t3))
      have e1 : w3.frozen? ⟨T, 3, none⟩ = false := (hgrow.frozen_far _ (by simp; omega) (Ne.symm hneT)).trans (((alloc_below _ _).frozen (p := ⟨T, 3, none⟩) hTlt).trans ft)))
  all_goals
    refine NoPanic.normal ?_
    have ho3 : OwnA w3 (A + 1) (.slice (some ⟨gg, 0, none⟩) (nn + 1) cap) (ats ++ [(x, [])]) := by
      unfold OwnA
      rw [attCells_snoc, List.length_append, Hn.out, Hbx.out]
      exact hown3
    have HC3 := hid (HC.out.put3 (W1 := (W.alloc (.cells #[.string bx, .string ⟨#[]⟩] 95)).drew) (alloc_below W _).drew hgrow ho3)
    clear ho3 hown3 hgrow hat e0 e1 a0 a1 t3 t3a c1 ft fr1 hlt3
    obtain ⟨W4, hW4⟩ : ∃ W4, w3.setCell ⟨T, 3, none⟩ (.slice (some ⟨gg, 0, none⟩) (nn + 1) cap) = W4 := ⟨_, rfl⟩
    rw [hW4] at HC3 ⊢
    clear hW4
    have c1 := HC3.out.c1
    have fr1 : W4.frozen? ⟨R, 1, none⟩ = false := HC3.out.r.frozen 1
    go_wp2
    refine wp_goto ?_

    have C4 := HC3.out.posI (m - 1) (i := (m : Int) - 1) (by omega)
    refine JA.of C4 ?_ (by omega) ?_ ?_
    · kernel_rfl
    · exact ⟨by rw [List.length_append]; simp; omega, Hz.out⟩
    · simp only [wtL]; omega
end Go.Proofs.YtihgmgpcdodknaaDoor
