/- strings.Contains and its kin: the variable bytealg.MaxLen holds some int, in every later world too; plain lemmas on Lib.contains. -/
import Derived.Test.YtihgmgpcdodknaaDoorKit
import Derived.Test.YtihgmgpcdodknaaDoorShelf
import Derived.Test.YtihgmgpcdodknaaDoorTokP
import Derived.Test.YtihgmgpcdodknaaDoorOct2
import Derived.Shelf.Vars
set_option linter.unusedVariables false
namespace Go.Proofs.YtihgmgpcdodknaaDoor
open Go.RowKit

/-- the library's variable MaxLen holds some int -/
def MaxAt (w : World) : Prop := ∃ m : Int, w.cell? ⟨2, 0, none⟩ = some (.int .i64 m)
theorem MaxAt.lt {w : World} (h : MaxAt w) : 2 < w.heap.size := by
  obtain ⟨m, h⟩ := h; exact World.block_lt_of_cell? w _ h
theorem MaxAt.keep {w w' : World} (h : MaxAt w) (hb : Below w.heap.size w w') : MaxAt w' := by
  have hl := h.lt
  obtain ⟨m, h⟩ := h
  exact ⟨m, by rw [hb.cell (p := ⟨2, 0, none⟩) hl]; exact h⟩
theorem MaxAt.alloc {w : World} (h : MaxAt w) (o : Obj) : MaxAt (w.alloc o) := h.keep ((Below.refl _ _).alloc (Nat.le_refl _) o)
theorem MaxAt.drew {w : World} (h : MaxAt w) : MaxAt w.drew := h
theorem maxAt_of {w : World} (h : w.ShapedOpen Tryd.prog) : MaxAt w :=
  cell_of_shapedOpen_int (P := Tryd.prog) (g := 2) (t := 3) (zero := #[.int .i64 0]) h (of_decide_eq_true (by kernel_rfl)) (by kernel_rfl) rfl (by kernel_rfl) (by kernel_rfl) Tryd.underlying3
theorem contains_eq (s p : List UInt8) : Lib.contains s p = !decide (Lib.index s p < 0) := by
  unfold Lib.contains
  by_cases h : Lib.index s p < 0
  · rw [decide_eq_true h]; simp; omega
  · rw [decide_eq_false h]; simp; omega
end Go.Proofs.YtihgmgpcdodknaaDoor
