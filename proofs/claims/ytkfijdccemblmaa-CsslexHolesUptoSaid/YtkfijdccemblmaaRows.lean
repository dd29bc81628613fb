/-
  No cell of these rows narrows 'for every input' (looked for: loops, veiled, ifaces, maps, wideKeys, modest, calm, conditions, laid).
  DERIVED. THE GIVEN ROWS OF THIS SEAT. 4 by the template 'for every input the law returns true; each argument reads behind the call as it read before'; 0 by the template 'total and deterministic' (their statements: YtkfijdccemblmaaTotals.lean).
  GIVEN WITH THE SEED: the statements are not yours to turn. If you find one false, say at which input.
  Laid BY PROGRAM, IN A SANDBOX (cutbox-rows.mjs): the forced cells as the released guide's own fill.sh prints them over the translation e71666cacd7b75bf… (all of the seat's roots in one cut). By AI agents, Wed Nov 11 2026. No macro, syntax, notation, axiom, sorry.
-/
import Derived.Test.YtkfijdccemblmaaChecked
import GoSem.Claim
import GoSem.ClaimJoined
import GoSem.ClaimMapViews
import Derived.JoinedTies
import Derived.KernelRfl
namespace Go.Proofs.Ytkfijdccemblmaa
/- THE CELL 'sum', in the pinned program and in every row, IS THE sha256 OF THE DUMP (.gsa) THAT YtkfijdccemblmaaProg.lean LOADS. Nothing in Lean hashes anything: it is a label: what it is worth is what the hold of that sum in a sandbox is worth. -/
noncomputable def Try.pinned : Pinned := { name := "ytkfijdccemblmaa", sum := "e71666cacd7b75bf45f348df2b9e8564d33103ec8b8cf178c23766dcca6a9487", checked := Try.checked }
namespace Rows
def none {H : Type} : Left H := { results := [], args := [] }

/-- 'muslinlaw39.CsslexPieces': WHATEVER THE INPUT: true; the input reads as it did. -/
def csslexPiecesSpec : ChangeSpec := { name := "csslexPieces", fn := fun _ => fun
  | [d] => { results := [.lit (.bool true)], args := [d] }
  | _ => none }
def csslexPiecesRow : OpenClaim := { program := "ytkfijdccemblmaa", sum := "e71666cacd7b75bf45f348df2b9e8564d33103ec8b8cf178c23766dcca6a9487", func := "muslin/muslinlaw39.CsslexPieces", spec := "csslexPieces", inPlace := ["internal/bytealg.IndexByteString", "internal/bytealg.IndexString"], unfollowed := true, recurses := true, named := ["internal/bytealg.MaxLen"], apart := false }
def CsslexPiecesSaid : Prop := csslexPiecesRow.holds Try.pinned (OpenSpec.ofChange csslexPiecesSpec)

/-- ITS FALSE NEIGHBOUR: 'it returns false'. Refute it at one input. -/
def csslexPiecesWrong : ChangeSpec := { name := "csslexPieces", fn := fun _ => fun
  | [d] => { results := [.lit (.bool false)], args := [d] }
  | _ => none }
def CsslexPiecesWrongFalsely : Prop := csslexPiecesRow.holds Try.pinned (OpenSpec.ofChange csslexPiecesWrong)

/-- 'muslinlaw39.CsslexTexts': WHATEVER THE INPUT: true; the input reads as it did. -/
def csslexTextsSpec : ChangeSpec := { name := "csslexTexts", fn := fun _ => fun
  | [d] => { results := [.lit (.bool true)], args := [d] }
  | _ => none }
def csslexTextsRow : OpenClaim := { program := "ytkfijdccemblmaa", sum := "e71666cacd7b75bf45f348df2b9e8564d33103ec8b8cf178c23766dcca6a9487", func := "muslin/muslinlaw39.CsslexTexts", spec := "csslexTexts", inPlace := ["internal/bytealg.IndexByteString", "internal/bytealg.IndexString"], unfollowed := true, recurses := true, named := ["internal/bytealg.MaxLen"], apart := false }
def CsslexTextsSaid : Prop := csslexTextsRow.holds Try.pinned (OpenSpec.ofChange csslexTextsSpec)

/-- ITS FALSE NEIGHBOUR: 'it returns false'. Refute it at one input. -/
def csslexTextsWrong : ChangeSpec := { name := "csslexTexts", fn := fun _ => fun
  | [d] => { results := [.lit (.bool false)], args := [d] }
  | _ => none }
def CsslexTextsWrongFalsely : Prop := csslexTextsRow.holds Try.pinned (OpenSpec.ofChange csslexTextsWrong)

/-- 'muslinlaw39.CsslexFrame': WHATEVER THE INPUT: true; the input reads as it did. -/
def csslexFrameSpec : ChangeSpec := { name := "csslexFrame", fn := fun _ => fun
  | [d] => { results := [.lit (.bool true)], args := [d] }
  | _ => none }
def csslexFrameRow : OpenClaim := { program := "ytkfijdccemblmaa", sum := "e71666cacd7b75bf45f348df2b9e8564d33103ec8b8cf178c23766dcca6a9487", func := "muslin/muslinlaw39.CsslexFrame", spec := "csslexFrame", inPlace := ["internal/bytealg.IndexByteString", "internal/bytealg.IndexString"], unfollowed := true, recurses := true, named := ["internal/bytealg.MaxLen"], apart := false }
def CsslexFrameSaid : Prop := csslexFrameRow.holds Try.pinned (OpenSpec.ofChange csslexFrameSpec)

/-- ITS FALSE NEIGHBOUR: 'it returns false'. Refute it at one input. -/
def csslexFrameWrong : ChangeSpec := { name := "csslexFrame", fn := fun _ => fun
  | [d] => { results := [.lit (.bool false)], args := [d] }
  | _ => none }
def CsslexFrameWrongFalsely : Prop := csslexFrameRow.holds Try.pinned (OpenSpec.ofChange csslexFrameWrong)

/-- 'muslinlaw39.CsslexHoles': WHATEVER THE INPUT: true; the input reads as it did. -/
def csslexHolesSpec : ChangeSpec := { name := "csslexHoles", fn := fun _ => fun
  | [d1, d2, d3, d4] => { results := [.lit (.bool true)], args := [d1, d2, d3, d4] }
  | _ => none }
def csslexHolesRow : OpenClaim := { program := "ytkfijdccemblmaa", sum := "e71666cacd7b75bf45f348df2b9e8564d33103ec8b8cf178c23766dcca6a9487", func := "muslin/muslinlaw39.CsslexHoles", spec := "csslexHoles", inPlace := ["internal/bytealg.IndexByteString", "internal/bytealg.IndexString"], unfollowed := true, recurses := true, named := ["internal/bytealg.MaxLen"], apart := false }
def CsslexHolesSaid : Prop := csslexHolesRow.holds Try.pinned (OpenSpec.ofChange csslexHolesSpec)

/-- ITS FALSE NEIGHBOUR: 'it returns false'. Refute it at one input. -/
def csslexHolesWrong : ChangeSpec := { name := "csslexHoles", fn := fun _ => fun
  | [d1, d2, d3, d4] => { results := [.lit (.bool false)], args := [d1, d2, d3, d4] }
  | _ => none }
def CsslexHolesWrongFalsely : Prop := csslexHolesRow.holds Try.pinned (OpenSpec.ofChange csslexHolesWrong)

/- THE SECOND FORM. 'bulk': how many values and letters a reading holds, each counted each time it is reached (what is shared counts as often as it is met; a slice's spare places count too). A statement '..UptoSaid' is the law's where the arguments, and the package variables that the reading takes, are together of bulk at most 1048576: NARROWER than '..Said'. Prove '..Said' where nothing that the law and all that it calls make is longer than what came in: it says more and counts as full. Else prove '..UptoSaid'. A law counts once. -/
mutual
def uptoBulk {H : Type} : DataW H → Nat
  | .lit (.string bytes) => bytes.length + 1
  | .lit _ => 1
  | .nil => 1
  | .ptr d => uptoBulk d + 1
  | .slice elems spare => uptoBulkAll elems + uptoBulkAll spare + 1
  | .agg parts => uptoBulkAll parts + 1
  | .iface _ d => uptoBulk d + 1
  | .map entries => uptoBulkEntries entries + 1
  | .held _ => 1
def uptoBulkAll {H : Type} : List (DataW H) → Nat
  | [] => 0
  | d :: r => uptoBulk d + uptoBulkAll r
def uptoBulkEntries {H : Type} : List (Lit × DataW H) → Nat
  | [] => 0
  | x :: r => uptoBulkEntry x + uptoBulkEntries r
def uptoBulkEntry {H : Type} : Lit × DataW H → Nat
  | (.string bytes, d) => bytes.length + uptoBulk d + 1
  | (_, d) => uptoBulk d + 1
 end
def uptoSmall : (H : Type) → List (DataW H) → Bool := fun _ ds => decide (uptoBulkAll ds ≤ 1048576)
def OpenSpec.upto (s : _root_.Go.ChangeSpec) : _root_.Go.OpenSpec := { _root_.Go.OpenSpec.ofChange s with cond := some uptoSmall }

/-- 'muslinlaw39.CsslexPieces', WHERE WHAT IT READS IS OF BULK AT MOST 1048576: true; the input reads as it did. -/
def csslexPiecesUptoRow : OpenClaim := { program := "ytkfijdccemblmaa", sum := "e71666cacd7b75bf45f348df2b9e8564d33103ec8b8cf178c23766dcca6a9487", func := "muslin/muslinlaw39.CsslexPieces", spec := "csslexPieces", inPlace := ["internal/bytealg.IndexByteString", "internal/bytealg.IndexString"], unfollowed := true, recurses := true, named := ["internal/bytealg.MaxLen"], apart := false, narrowed := true }
def CsslexPiecesUptoSaid : Prop := csslexPiecesUptoRow.holds Try.pinned (OpenSpec.upto csslexPiecesSpec)

/-- 'muslinlaw39.CsslexTexts', WHERE WHAT IT READS IS OF BULK AT MOST 1048576: true; the input reads as it did. -/
def csslexTextsUptoRow : OpenClaim := { program := "ytkfijdccemblmaa", sum := "e71666cacd7b75bf45f348df2b9e8564d33103ec8b8cf178c23766dcca6a9487", func := "muslin/muslinlaw39.CsslexTexts", spec := "csslexTexts", inPlace := ["internal/bytealg.IndexByteString", "internal/bytealg.IndexString"], unfollowed := true, recurses := true, named := ["internal/bytealg.MaxLen"], apart := false, narrowed := true }
def CsslexTextsUptoSaid : Prop := csslexTextsUptoRow.holds Try.pinned (OpenSpec.upto csslexTextsSpec)

/-- 'muslinlaw39.CsslexFrame', WHERE WHAT IT READS IS OF BULK AT MOST 1048576: true; the input reads as it did. -/
def csslexFrameUptoRow : OpenClaim := { program := "ytkfijdccemblmaa", sum := "e71666cacd7b75bf45f348df2b9e8564d33103ec8b8cf178c23766dcca6a9487", func := "muslin/muslinlaw39.CsslexFrame", spec := "csslexFrame", inPlace := ["internal/bytealg.IndexByteString", "internal/bytealg.IndexString"], unfollowed := true, recurses := true, named := ["internal/bytealg.MaxLen"], apart := false, narrowed := true }
def CsslexFrameUptoSaid : Prop := csslexFrameUptoRow.holds Try.pinned (OpenSpec.upto csslexFrameSpec)

/-- 'muslinlaw39.CsslexHoles', WHERE WHAT IT READS IS OF BULK AT MOST 1048576: true; the input reads as it did. -/
def csslexHolesUptoRow : OpenClaim := { program := "ytkfijdccemblmaa", sum := "e71666cacd7b75bf45f348df2b9e8564d33103ec8b8cf178c23766dcca6a9487", func := "muslin/muslinlaw39.CsslexHoles", spec := "csslexHoles", inPlace := ["internal/bytealg.IndexByteString", "internal/bytealg.IndexString"], unfollowed := true, recurses := true, named := ["internal/bytealg.MaxLen"], apart := false, narrowed := true }
def CsslexHolesUptoSaid : Prop := csslexHolesUptoRow.holds Try.pinned (OpenSpec.upto csslexHolesSpec)

end Rows
end Go.Proofs.Ytkfijdccemblmaa
