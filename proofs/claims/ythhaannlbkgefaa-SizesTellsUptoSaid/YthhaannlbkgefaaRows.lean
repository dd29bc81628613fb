/-
  NARROWER THAN 'FOR EVERY INPUT', by the rows' own cells (each row's printed sentence says how): SizesSums: loops · SizesTells: loops.
  DERIVED. THE GIVEN ROWS OF THIS SEAT. 3 by the template 'for every input the law returns true; each argument reads behind the call as it read before'; 0 by the template 'total and deterministic' (their statements: YthhaannlbkgefaaTotals.lean).
  GIVEN WITH THE SEED: the statements are not yours to turn. If you find one false, say at which input.
  Laid BY PROGRAM, IN A SANDBOX (cutbox-rows.mjs): the forced cells as the released guide's own fill.sh prints them over the translation 646129f46d2bbba1… (all of the seat's roots in one cut). By AI agents, Wed Nov 11 2026. No macro, syntax, notation, axiom, sorry.
-/
import Derived.Test.YthhaannlbkgefaaChecked
import GoSem.Claim
import GoSem.ClaimJoined
import GoSem.ClaimMapViews
import Derived.JoinedTies
import Derived.KernelRfl
namespace Go.Proofs.Ythhaannlbkgefaa
/- THE CELL 'sum', in the pinned program and in every row, IS THE sha256 OF THE DUMP (.gsa) THAT YthhaannlbkgefaaProg.lean LOADS. Nothing in Lean hashes anything: it is a label: what it is worth is what the hold of that sum in a sandbox is worth. -/
noncomputable def Try.pinned : Pinned := { name := "ythhaannlbkgefaa", sum := "646129f46d2bbba19eecdd6a91d0c05c7efb9489dd3e2309d6091bc92470c889", checked := Try.checked }
namespace Rows
def none {H : Type} : Left H := { results := [], args := [] }

/-- 'muslinlaw34.SizesSums': WHATEVER THE INPUT: true; the input reads as it did. -/
def sizesSumsSpec : ChangeSpec := { name := "sizesSums", fn := fun _ => fun
  | [d1, d2, d3, d4] => { results := [.lit (.bool true)], args := [d1, d2, d3, d4] }
  | _ => none }
def sizesSumsRow : OpenClaim := { program := "ythhaannlbkgefaa", sum := "646129f46d2bbba19eecdd6a91d0c05c7efb9489dd3e2309d6091bc92470c889", func := "muslin/muslinlaw34.SizesSums", spec := "sizesSums", recurses := true, loops := true, apart := false }
def SizesSumsSaid : Prop := sizesSumsRow.holds Try.pinned (OpenSpec.ofChange sizesSumsSpec)

/-- ITS FALSE NEIGHBOUR: 'it returns false'. Refute it at one input. -/
def sizesSumsWrong : ChangeSpec := { name := "sizesSums", fn := fun _ => fun
  | [d1, d2, d3, d4] => { results := [.lit (.bool false)], args := [d1, d2, d3, d4] }
  | _ => none }
def SizesSumsWrongFalsely : Prop := sizesSumsRow.holds Try.pinned (OpenSpec.ofChange sizesSumsWrong)

/-- 'muslinlaw34.SizesParts': WHATEVER THE INPUT: true; the input reads as it did. -/
def sizesPartsSpec : ChangeSpec := { name := "sizesParts", fn := fun _ => fun
  | [d] => { results := [.lit (.bool true)], args := [d] }
  | _ => none }
def sizesPartsRow : OpenClaim := { program := "ythhaannlbkgefaa", sum := "646129f46d2bbba19eecdd6a91d0c05c7efb9489dd3e2309d6091bc92470c889", func := "muslin/muslinlaw34.SizesParts", spec := "sizesParts", recurses := true, apart := false }
def SizesPartsSaid : Prop := sizesPartsRow.holds Try.pinned (OpenSpec.ofChange sizesPartsSpec)

/-- ITS FALSE NEIGHBOUR: 'it returns false'. Refute it at one input. -/
def sizesPartsWrong : ChangeSpec := { name := "sizesParts", fn := fun _ => fun
  | [d] => { results := [.lit (.bool false)], args := [d] }
  | _ => none }
def SizesPartsWrongFalsely : Prop := sizesPartsRow.holds Try.pinned (OpenSpec.ofChange sizesPartsWrong)

/-- 'muslinlaw34.SizesTells': WHATEVER THE INPUT: true; the input reads as it did. -/
def sizesTellsSpec : ChangeSpec := { name := "sizesTells", fn := fun _ => fun
  | [d1, d2] => { results := [.lit (.bool true)], args := [d1, d2] }
  | _ => none }
def sizesTellsRow : OpenClaim := { program := "ythhaannlbkgefaa", sum := "646129f46d2bbba19eecdd6a91d0c05c7efb9489dd3e2309d6091bc92470c889", func := "muslin/muslinlaw34.SizesTells", spec := "sizesTells", unfollowed := true, recurses := true, loops := true, apart := false }
def SizesTellsSaid : Prop := sizesTellsRow.holds Try.pinned (OpenSpec.ofChange sizesTellsSpec)

/-- ITS FALSE NEIGHBOUR: 'it returns false'. Refute it at one input. -/
def sizesTellsWrong : ChangeSpec := { name := "sizesTells", fn := fun _ => fun
  | [d1, d2] => { results := [.lit (.bool false)], args := [d1, d2] }
  | _ => none }
def SizesTellsWrongFalsely : Prop := sizesTellsRow.holds Try.pinned (OpenSpec.ofChange sizesTellsWrong)

/- THE SECOND FORM. 'bulk': how many values and letters a reading holds, each counted each time it is reached (what is shared counts as often as it is met; a slice's spare places count too). A statement '..UptoSaid' is the law's where the arguments, and the package variables that the reading takes, are together of bulk at most 1048576: NARROWER than '..Said'. Prove '..Said' where nothing that the law and all that it calls make is longer than what came in: it says more and counts as full. Else prove '..UptoSaid'. A law counts once. -/
mutual
def uptoBulk {H : Type} : DataW H → Nat
  | .lit (.string bytes) => bytes.length + 1
  | .lit _ => 1
  | .nil => 1
  | .ptr d => uptoBulk d + 1
  | .slice elems spare => uptoBulkAll elems + uptoBulkAll spare + 1
  | .agg parts => uptoBulkAll parts + 1
  | .iface _ d => uptoBulk d + 1
  | .map entries => uptoBulkEntries entries + 1
  | .held _ => 1
def uptoBulkAll {H : Type} : List (DataW H) → Nat
  | [] => 0
  | d :: r => uptoBulk d + uptoBulkAll r
def uptoBulkEntries {H : Type} : List (Lit × DataW H) → Nat
  | [] => 0
  | x :: r => uptoBulkEntry x + uptoBulkEntries r
def uptoBulkEntry {H : Type} : Lit × DataW H → Nat
  | (.string bytes, d) => bytes.length + uptoBulk d + 1
  | (_, d) => uptoBulk d + 1
 end
def uptoSmall : (H : Type) → List (DataW H) → Bool := fun _ ds => decide (uptoBulkAll ds ≤ 1048576)
def OpenSpec.upto (s : _root_.Go.ChangeSpec) : _root_.Go.OpenSpec := { _root_.Go.OpenSpec.ofChange s with cond := some uptoSmall }

/-- 'muslinlaw34.SizesSums', WHERE WHAT IT READS IS OF BULK AT MOST 1048576: true; the input reads as it did. -/
def sizesSumsUptoRow : OpenClaim := { program := "ythhaannlbkgefaa", sum := "646129f46d2bbba19eecdd6a91d0c05c7efb9489dd3e2309d6091bc92470c889", func := "muslin/muslinlaw34.SizesSums", spec := "sizesSums", recurses := true, loops := true, apart := false, narrowed := true }
def SizesSumsUptoSaid : Prop := sizesSumsUptoRow.holds Try.pinned (OpenSpec.upto sizesSumsSpec)

/-- 'muslinlaw34.SizesParts', WHERE WHAT IT READS IS OF BULK AT MOST 1048576: true; the input reads as it did. -/
def sizesPartsUptoRow : OpenClaim := { program := "ythhaannlbkgefaa", sum := "646129f46d2bbba19eecdd6a91d0c05c7efb9489dd3e2309d6091bc92470c889", func := "muslin/muslinlaw34.SizesParts", spec := "sizesParts", recurses := true, apart := false, narrowed := true }
def SizesPartsUptoSaid : Prop := sizesPartsUptoRow.holds Try.pinned (OpenSpec.upto sizesPartsSpec)

/-- 'muslinlaw34.SizesTells', WHERE WHAT IT READS IS OF BULK AT MOST 1048576: true; the input reads as it did. -/
def sizesTellsUptoRow : OpenClaim := { program := "ythhaannlbkgefaa", sum := "646129f46d2bbba19eecdd6a91d0c05c7efb9489dd3e2309d6091bc92470c889", func := "muslin/muslinlaw34.SizesTells", spec := "sizesTells", unfollowed := true, recurses := true, loops := true, apart := false, narrowed := true }
def SizesTellsUptoSaid : Prop := sizesTellsUptoRow.holds Try.pinned (OpenSpec.upto sizesTellsSpec)

end Rows
end Go.Proofs.Ythhaannlbkgefaa
