/- Contracts of package utf: Encode, Decode, Valid. -/
import Derived.Test.YtihgmgpcdodknaaBuf
import Derived.Test.YtihgmgpcdodknaaTokP
import Derived.Test.YtihgmgpcdodknaaShelf
set_option linter.unusedVariables false
namespace Go.Proofs.Ytihgmgpcdodknaa
open Go.RowKit

theorem OwnB.of {w : World} {base : Nat} {v : Value} {n : Nat} {l : List UInt8} (h : w.ownsRow base 5 1 v n (Lib.byteCells l)) (hn : n = l.length) : OwnB w base v l := by subst hn; exact h

set_option maxHeartbeats 800000 in
theorem encode_any (c : Int) (hc0 : -9223372036854775808 ≤ c) (hc1 : c ≤ 9223372036854775807) (w : World) :
    Calls Try.prog 87 #[.int .i64 c] w (RStrInt w (encL c) (encE c)) := by
  have hok := hid (encOk_valid c)
  by_cases h0 : 0 ≤ c
  · by_cases h1 : c ≤ 1114111
    · have hcv : Hid (encOk c = Lib.validRune c) := hid (by rw [hok.out, decide_eq_true h0, decide_eq_true h1]; rfl)
      go_enter Try.func87, Try.ntmps87
      cases hv : Lib.validRune c with
      | false =>
        go_wp2_with (go_at_call 101; refine (Try.utf8_ValidRune _ _).mono ?_; rintro e w1 ⟨rfl, hw⟩; obtain rfl := hw.symm)
        go_ret2
        have e : encOk c = false := by rw [hcv.out, hv]
        refine ⟨_, _, rfl, hid ?_, hid ?_, Below.refl _ _⟩
        · unfold encL; rw [e]; rfl
        · unfold encE; rw [e]; rfl
      | true =>
        go_wp2_with (first | (go_at_call 101; refine (Try.utf8_ValidRune _ _).mono ?_; rintro e w1 ⟨rfl, hw⟩; obtain rfl := hw.symm))
        refine (Try.utf8_AppendRune_plain w.heap.size _ 0 [] c (by omega) (by omega) _ (World.ownsRow_nil _ _ _ _) (by omega) (by first | exact Nat.le_refl _ | simp)).mono ?_
        rintro e w2 ⟨v', rfl, hown, o, hg⟩
        rw [List.nil_append, Nat.zero_add, ← Lib.byteCells_encodeRune] at hown
        have hO := OwnB.of hown (by rw [Lib.byteCells_length])
        have hcv2 := hO.back
        have hbw : Below w.heap.size w w2 := ((Below.refl w.heap.size w).alloc (Nat.le_refl _) o).grown hg (by simp) (fun k hk => by cases hk)
        clear hown hO
        go_wp2
        go_ret2
        have e : encOk c = true := by rw [hcv.out, hv]
        refine ⟨_, _, rfl, hid ?_, hid ?_, hbw⟩
        · unfold encL; rw [e]; simp
        · unfold encE; rw [e]; rfl
    · go_enter Try.func87, Try.ntmps87
      go_wp2
      go_ret2
      have e : encOk c = false := by rw [hok.out, decide_eq_false (show ¬ c ≤ 1114111 by omega)]; simp
      refine ⟨_, _, rfl, hid ?_, hid ?_, Below.refl _ _⟩
      · unfold encL; rw [e]; rfl
      · unfold encE; rw [e]; rfl
  · go_enter Try.func87, Try.ntmps87
    go_wp2
    go_ret2
    have e : encOk c = false := by rw [hok.out, decide_eq_false (show ¬ 0 ≤ c by omega)]; rfl
    refine ⟨_, _, rfl, hid ?_, hid ?_, Below.refl _ _⟩
    · unfold encL; rw [e]; rfl
    · unfold encE; rw [e]; rfl






end Go.Proofs.Ytihgmgpcdodknaa
