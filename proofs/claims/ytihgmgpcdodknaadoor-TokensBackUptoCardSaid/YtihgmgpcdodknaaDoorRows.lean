/-
  NARROWER THAN 'FOR EVERY INPUT', by the rows' own cells (each row's printed sentence says how): TokensBack: laid · UtfBack: laid · UtfOwn: laid · UtfTells: laid · UtfRepairs: laid · RefsParts: laid · RefsNumbers: laid · RefsBack: laid · RefsWaits: laid · RefsTells: laid.
  DERIVED. THE GIVEN ROWS OF THIS SEAT. 10 by the template 'for every input the law returns true; each argument reads behind the call as it read before'; 0 by the template 'total and deterministic' (their statements: YtihgmgpcdodknaaDoorTotals.lean).
  GIVEN WITH THE SEED: the statements are not yours to turn. If you find one false, say at which input.
  Laid BY PROGRAM, IN A SANDBOX (cutbox-rows.mjs): the forced cells as the released guide's own fill.sh prints them over the translation 05d05e2b82116f12… (all of the seat's roots in one cut). By AI agents, Wed Nov 11 2026. No macro, syntax, notation, axiom, sorry.
-/
import Derived.Test.YtihgmgpcdodknaaDoorChecked
import GoSem.PinnedTables
import GoSem.Claim
import GoSem.ClaimJoined
import GoSem.ClaimMapViews
import Derived.JoinedTies
import Derived.KernelRfl
namespace Go.Proofs.YtihgmgpcdodknaaDoor
/- THE CELL 'sum', in the pinned program and in every row, IS THE sha256 OF THE DUMP (.gsa) THAT YtihgmgpcdodknaaDoorProg.lean LOADS. Nothing in Lean hashes anything: it is a label: what it is worth is what the hold of that sum in a sandbox is worth. -/
noncomputable def Tryd.pinned : Pinned := { name := "ytihgmgpcdodknaadoor", sum := "05d05e2b82116f12461af1d4168923dae3e2c52ff2621f5f6430c60d4a11c3e0", checked := Tryd.checked }
namespace Rows
def none {H : Type} : Left H := { results := [], args := [] }

/- WHAT THE LISTED PACKAGE-LEVEL VARIABLES READ AS WHEN THE CALL BEGINS. Each datum BY PROGRAM (the guide's laid-datum.mjs) off the statement by which the dump's own 'gosem.cut.vars' lays the variable. In a bare row this is a premise. The card (YtihgmgpcdodknaaDoorCards.lean) ties it to the program's text. -/
def laid_unicode_utf8_acceptRanges {H : Type} : DataW H := .agg [.agg [.lit (.int .u8 128), .lit (.int .u8 191)], .agg [.lit (.int .u8 160), .lit (.int .u8 191)], .agg [.lit (.int .u8 128), .lit (.int .u8 159)], .agg [.lit (.int .u8 144), .lit (.int .u8 191)], .agg [.lit (.int .u8 128), .lit (.int .u8 143)], .agg [.lit (.int .u8 0), .lit (.int .u8 0)], .agg [.lit (.int .u8 0), .lit (.int .u8 0)], .agg [.lit (.int .u8 0), .lit (.int .u8 0)], .agg [.lit (.int .u8 0), .lit (.int .u8 0)], .agg [.lit (.int .u8 0), .lit (.int .u8 0)], .agg [.lit (.int .u8 0), .lit (.int .u8 0)], .agg [.lit (.int .u8 0), .lit (.int .u8 0)], .agg [.lit (.int .u8 0), .lit (.int .u8 0)], .agg [.lit (.int .u8 0), .lit (.int .u8 0)], .agg [.lit (.int .u8 0), .lit (.int .u8 0)], .agg [.lit (.int .u8 0), .lit (.int .u8 0)]]
/-- One of Go's own tables, pinned by name: the form's constant. -/
def laid_unicode_utf8_first : DataW Unit := Go.Pinned.utf8First

/-- 'muslinlaw12.TokensBack': WHATEVER THE INPUT: true; the input reads as it did. -/
def tokensBackSpec : ChangeSpec := { name := "tokensBack", fn := fun _ => fun
  | [d] => { results := [.lit (.bool true)], args := [d] }
  | _ => none }
def tokensBackRow : OpenClaim := { program := "ytihgmgpcdodknaadoor", sum := "05d05e2b82116f12461af1d4168923dae3e2c52ff2621f5f6430c60d4a11c3e0", func := "muslin/muslinlaw12.TokensBack", spec := "tokensBack", inPlace := ["internal/bytealg.IndexByteString", "internal/abi.NoEscape", "internal/bytealg.IndexString"], unfollowed := true, recurses := true, named := ["internal/bytealg.MaxLen", "unicode/utf8.first", "unicode/utf8.acceptRanges"], apart := false, laid := [("unicode/utf8.acceptRanges", laid_unicode_utf8_acceptRanges), ("unicode/utf8.first", laid_unicode_utf8_first)] }
def TokensBackSaid : Prop := tokensBackRow.holds Tryd.pinned (OpenSpec.ofChange tokensBackSpec)

/-- ITS FALSE NEIGHBOUR: 'it returns false'. Refute it at one input. -/
def tokensBackWrong : ChangeSpec := { name := "tokensBack", fn := fun _ => fun
  | [d] => { results := [.lit (.bool false)], args := [d] }
  | _ => none }
def TokensBackWrongFalsely : Prop := tokensBackRow.holds Tryd.pinned (OpenSpec.ofChange tokensBackWrong)

/-- 'muslinlaw02.UtfBack': WHATEVER THE INPUT: true; the input reads as it did. -/
def utfBackSpec : ChangeSpec := { name := "utfBack", fn := fun _ => fun
  | [d1, d2] => { results := [.lit (.bool true)], args := [d1, d2] }
  | _ => none }
def utfBackRow : OpenClaim := { program := "ytihgmgpcdodknaadoor", sum := "05d05e2b82116f12461af1d4168923dae3e2c52ff2621f5f6430c60d4a11c3e0", func := "muslin/muslinlaw02.UtfBack", spec := "utfBack", named := ["unicode/utf8.first", "unicode/utf8.acceptRanges"], apart := false, laid := [("unicode/utf8.acceptRanges", laid_unicode_utf8_acceptRanges), ("unicode/utf8.first", laid_unicode_utf8_first)] }
def UtfBackSaid : Prop := utfBackRow.holds Tryd.pinned (OpenSpec.ofChange utfBackSpec)

/-- ITS FALSE NEIGHBOUR: 'it returns false'. Refute it at one input. -/
def utfBackWrong : ChangeSpec := { name := "utfBack", fn := fun _ => fun
  | [d1, d2] => { results := [.lit (.bool false)], args := [d1, d2] }
  | _ => none }
def UtfBackWrongFalsely : Prop := utfBackRow.holds Tryd.pinned (OpenSpec.ofChange utfBackWrong)

/-- 'muslinlaw02.UtfOwn': WHATEVER THE INPUT: true; the input reads as it did. -/
def utfOwnSpec : ChangeSpec := { name := "utfOwn", fn := fun _ => fun
  | [d] => { results := [.lit (.bool true)], args := [d] }
  | _ => none }
def utfOwnRow : OpenClaim := { program := "ytihgmgpcdodknaadoor", sum := "05d05e2b82116f12461af1d4168923dae3e2c52ff2621f5f6430c60d4a11c3e0", func := "muslin/muslinlaw02.UtfOwn", spec := "utfOwn", unfollowed := true, recurses := true, named := ["unicode/utf8.first", "unicode/utf8.acceptRanges"], apart := false, laid := [("unicode/utf8.acceptRanges", laid_unicode_utf8_acceptRanges), ("unicode/utf8.first", laid_unicode_utf8_first)] }
def UtfOwnSaid : Prop := utfOwnRow.holds Tryd.pinned (OpenSpec.ofChange utfOwnSpec)

/-- ITS FALSE NEIGHBOUR: 'it returns false'. Refute it at one input. -/
def utfOwnWrong : ChangeSpec := { name := "utfOwn", fn := fun _ => fun
  | [d] => { results := [.lit (.bool false)], args := [d] }
  | _ => none }
def UtfOwnWrongFalsely : Prop := utfOwnRow.holds Tryd.pinned (OpenSpec.ofChange utfOwnWrong)

/-- 'muslinlaw02.UtfTells': WHATEVER THE INPUT: true; the input reads as it did. -/
def utfTellsSpec : ChangeSpec := { name := "utfTells", fn := fun _ => fun
  | [d1, d2] => { results := [.lit (.bool true)], args := [d1, d2] }
  | _ => none }
def utfTellsRow : OpenClaim := { program := "ytihgmgpcdodknaadoor", sum := "05d05e2b82116f12461af1d4168923dae3e2c52ff2621f5f6430c60d4a11c3e0", func := "muslin/muslinlaw02.UtfTells", spec := "utfTells", inPlace := ["internal/abi.NoEscape"], unfollowed := true, recurses := true, named := ["unicode/utf8.first", "unicode/utf8.acceptRanges"], apart := false, laid := [("unicode/utf8.acceptRanges", laid_unicode_utf8_acceptRanges), ("unicode/utf8.first", laid_unicode_utf8_first)] }
def UtfTellsSaid : Prop := utfTellsRow.holds Tryd.pinned (OpenSpec.ofChange utfTellsSpec)

/-- ITS FALSE NEIGHBOUR: 'it returns false'. Refute it at one input. -/
def utfTellsWrong : ChangeSpec := { name := "utfTells", fn := fun _ => fun
  | [d1, d2] => { results := [.lit (.bool false)], args := [d1, d2] }
  | _ => none }
def UtfTellsWrongFalsely : Prop := utfTellsRow.holds Tryd.pinned (OpenSpec.ofChange utfTellsWrong)

/-- 'muslinlaw02.UtfRepairs': WHATEVER THE INPUT: true; the input reads as it did. -/
def utfRepairsSpec : ChangeSpec := { name := "utfRepairs", fn := fun _ => fun
  | [d] => { results := [.lit (.bool true)], args := [d] }
  | _ => none }
def utfRepairsRow : OpenClaim := { program := "ytihgmgpcdodknaadoor", sum := "05d05e2b82116f12461af1d4168923dae3e2c52ff2621f5f6430c60d4a11c3e0", func := "muslin/muslinlaw02.UtfRepairs", spec := "utfRepairs", inPlace := ["internal/abi.NoEscape"], unfollowed := true, recurses := true, named := ["unicode/utf8.first", "unicode/utf8.acceptRanges"], apart := false, laid := [("unicode/utf8.acceptRanges", laid_unicode_utf8_acceptRanges), ("unicode/utf8.first", laid_unicode_utf8_first)] }
def UtfRepairsSaid : Prop := utfRepairsRow.holds Tryd.pinned (OpenSpec.ofChange utfRepairsSpec)

/-- ITS FALSE NEIGHBOUR: 'it returns false'. Refute it at one input. -/
def utfRepairsWrong : ChangeSpec := { name := "utfRepairs", fn := fun _ => fun
  | [d] => { results := [.lit (.bool false)], args := [d] }
  | _ => none }
def UtfRepairsWrongFalsely : Prop := utfRepairsRow.holds Tryd.pinned (OpenSpec.ofChange utfRepairsWrong)

/-- 'muslinlaw06.RefsParts': WHATEVER THE INPUT: true; the input reads as it did. -/
def refsPartsSpec : ChangeSpec := { name := "refsParts", fn := fun _ => fun
  | [d1, d2] => { results := [.lit (.bool true)], args := [d1, d2] }
  | _ => none }
def refsPartsRow : OpenClaim := { program := "ytihgmgpcdodknaadoor", sum := "05d05e2b82116f12461af1d4168923dae3e2c52ff2621f5f6430c60d4a11c3e0", func := "muslin/muslinlaw06.RefsParts", spec := "refsParts", inPlace := ["internal/bytealg.IndexByteString", "internal/abi.NoEscape"], unfollowed := true, recurses := true, named := ["unicode/utf8.first", "unicode/utf8.acceptRanges"], apart := false, laid := [("unicode/utf8.acceptRanges", laid_unicode_utf8_acceptRanges), ("unicode/utf8.first", laid_unicode_utf8_first)] }
def RefsPartsSaid : Prop := refsPartsRow.holds Tryd.pinned (OpenSpec.ofChange refsPartsSpec)

/-- ITS FALSE NEIGHBOUR: 'it returns false'. Refute it at one input. -/
def refsPartsWrong : ChangeSpec := { name := "refsParts", fn := fun _ => fun
  | [d1, d2] => { results := [.lit (.bool false)], args := [d1, d2] }
  | _ => none }
def RefsPartsWrongFalsely : Prop := refsPartsRow.holds Tryd.pinned (OpenSpec.ofChange refsPartsWrong)

/-- 'muslinlaw06.RefsNumbers': WHATEVER THE INPUT: true; the input reads as it did. -/
def refsNumbersSpec : ChangeSpec := { name := "refsNumbers", fn := fun _ => fun
  | [d] => { results := [.lit (.bool true)], args := [d] }
  | _ => none }
def refsNumbersRow : OpenClaim := { program := "ytihgmgpcdodknaadoor", sum := "05d05e2b82116f12461af1d4168923dae3e2c52ff2621f5f6430c60d4a11c3e0", func := "muslin/muslinlaw06.RefsNumbers", spec := "refsNumbers", inPlace := ["internal/bytealg.IndexByteString", "internal/abi.NoEscape"], unfollowed := true, recurses := true, named := ["unicode/utf8.first", "unicode/utf8.acceptRanges"], apart := false, laid := [("unicode/utf8.acceptRanges", laid_unicode_utf8_acceptRanges), ("unicode/utf8.first", laid_unicode_utf8_first)] }
def RefsNumbersSaid : Prop := refsNumbersRow.holds Tryd.pinned (OpenSpec.ofChange refsNumbersSpec)

/-- ITS FALSE NEIGHBOUR: 'it returns false'. Refute it at one input. -/
def refsNumbersWrong : ChangeSpec := { name := "refsNumbers", fn := fun _ => fun
  | [d] => { results := [.lit (.bool false)], args := [d] }
  | _ => none }
def RefsNumbersWrongFalsely : Prop := refsNumbersRow.holds Tryd.pinned (OpenSpec.ofChange refsNumbersWrong)

/-- 'muslinlaw06.RefsBack': WHATEVER THE INPUT: true; the input reads as it did. -/
def refsBackSpec : ChangeSpec := { name := "refsBack", fn := fun _ => fun
  | [d] => { results := [.lit (.bool true)], args := [d] }
  | _ => none }
def refsBackRow : OpenClaim := { program := "ytihgmgpcdodknaadoor", sum := "05d05e2b82116f12461af1d4168923dae3e2c52ff2621f5f6430c60d4a11c3e0", func := "muslin/muslinlaw06.RefsBack", spec := "refsBack", inPlace := ["internal/abi.NoEscape", "internal/bytealg.IndexByteString"], unfollowed := true, recurses := true, named := ["unicode/utf8.first", "unicode/utf8.acceptRanges"], apart := false, laid := [("unicode/utf8.acceptRanges", laid_unicode_utf8_acceptRanges), ("unicode/utf8.first", laid_unicode_utf8_first)] }
def RefsBackSaid : Prop := refsBackRow.holds Tryd.pinned (OpenSpec.ofChange refsBackSpec)

/-- ITS FALSE NEIGHBOUR: 'it returns false'. Refute it at one input. -/
def refsBackWrong : ChangeSpec := { name := "refsBack", fn := fun _ => fun
  | [d] => { results := [.lit (.bool false)], args := [d] }
  | _ => none }
def RefsBackWrongFalsely : Prop := refsBackRow.holds Tryd.pinned (OpenSpec.ofChange refsBackWrong)

/-- 'muslinlaw06.RefsWaits': WHATEVER THE INPUT: true; the input reads as it did. -/
def refsWaitsSpec : ChangeSpec := { name := "refsWaits", fn := fun _ => fun
  | [d1, d2] => { results := [.lit (.bool true)], args := [d1, d2] }
  | _ => none }
def refsWaitsRow : OpenClaim := { program := "ytihgmgpcdodknaadoor", sum := "05d05e2b82116f12461af1d4168923dae3e2c52ff2621f5f6430c60d4a11c3e0", func := "muslin/muslinlaw06.RefsWaits", spec := "refsWaits", inPlace := ["internal/bytealg.IndexByteString", "internal/abi.NoEscape"], unfollowed := true, recurses := true, named := ["unicode/utf8.first", "unicode/utf8.acceptRanges"], apart := false, laid := [("unicode/utf8.acceptRanges", laid_unicode_utf8_acceptRanges), ("unicode/utf8.first", laid_unicode_utf8_first)] }
def RefsWaitsSaid : Prop := refsWaitsRow.holds Tryd.pinned (OpenSpec.ofChange refsWaitsSpec)

/-- ITS FALSE NEIGHBOUR: 'it returns false'. Refute it at one input. -/
def refsWaitsWrong : ChangeSpec := { name := "refsWaits", fn := fun _ => fun
  | [d1, d2] => { results := [.lit (.bool false)], args := [d1, d2] }
  | _ => none }
def RefsWaitsWrongFalsely : Prop := refsWaitsRow.holds Tryd.pinned (OpenSpec.ofChange refsWaitsWrong)

/-- 'muslinlaw06.RefsTells': WHATEVER THE INPUT: true; the input reads as it did. -/
def refsTellsSpec : ChangeSpec := { name := "refsTells", fn := fun _ => fun
  | [d] => { results := [.lit (.bool true)], args := [d] }
  | _ => none }
def refsTellsRow : OpenClaim := { program := "ytihgmgpcdodknaadoor", sum := "05d05e2b82116f12461af1d4168923dae3e2c52ff2621f5f6430c60d4a11c3e0", func := "muslin/muslinlaw06.RefsTells", spec := "refsTells", inPlace := ["internal/bytealg.IndexByteString", "internal/abi.NoEscape"], unfollowed := true, recurses := true, named := ["unicode/utf8.first", "unicode/utf8.acceptRanges"], apart := false, laid := [("unicode/utf8.acceptRanges", laid_unicode_utf8_acceptRanges), ("unicode/utf8.first", laid_unicode_utf8_first)] }
def RefsTellsSaid : Prop := refsTellsRow.holds Tryd.pinned (OpenSpec.ofChange refsTellsSpec)

/-- ITS FALSE NEIGHBOUR: 'it returns false'. Refute it at one input. -/
def refsTellsWrong : ChangeSpec := { name := "refsTells", fn := fun _ => fun
  | [d] => { results := [.lit (.bool false)], args := [d] }
  | _ => none }
def RefsTellsWrongFalsely : Prop := refsTellsRow.holds Tryd.pinned (OpenSpec.ofChange refsTellsWrong)

/- THE SECOND FORM. 'bulk': how many values and letters a reading holds, each counted each time it is reached (what is shared counts as often as it is met; a slice's spare places count too). A statement '..UptoSaid' is the law's where the arguments, and the package variables that the reading takes, are together of bulk at most 1048576: NARROWER than '..Said'. Prove '..Said' where nothing that the law and all that it calls make is longer than what came in: it says more and counts as full. Else prove '..UptoSaid'. A law counts once. -/
mutual
def uptoBulk {H : Type} : DataW H → Nat
  | .lit (.string bytes) => bytes.length + 1
  | .lit _ => 1
  | .nil => 1
  | .ptr d => uptoBulk d + 1
  | .slice elems spare => uptoBulkAll elems + uptoBulkAll spare + 1
  | .agg parts => uptoBulkAll parts + 1
  | .iface _ d => uptoBulk d + 1
  | .map entries => uptoBulkEntries entries + 1
  | .held _ => 1
def uptoBulkAll {H : Type} : List (DataW H) → Nat
  | [] => 0
  | d :: r => uptoBulk d + uptoBulkAll r
def uptoBulkEntries {H : Type} : List (Lit × DataW H) → Nat
  | [] => 0
  | x :: r => uptoBulkEntry x + uptoBulkEntries r
def uptoBulkEntry {H : Type} : Lit × DataW H → Nat
  | (.string bytes, d) => bytes.length + uptoBulk d + 1
  | (_, d) => uptoBulk d + 1
 end
def uptoSmall : (H : Type) → List (DataW H) → Bool := fun _ ds => decide (uptoBulkAll ds ≤ 1048576)
def OpenSpec.upto (s : _root_.Go.ChangeSpec) : _root_.Go.OpenSpec := { _root_.Go.OpenSpec.ofChange s with cond := some uptoSmall }

/-- 'muslinlaw12.TokensBack', WHERE WHAT IT READS IS OF BULK AT MOST 1048576: true; the input reads as it did. -/
def tokensBackUptoRow : OpenClaim := { program := "ytihgmgpcdodknaadoor", sum := "05d05e2b82116f12461af1d4168923dae3e2c52ff2621f5f6430c60d4a11c3e0", func := "muslin/muslinlaw12.TokensBack", spec := "tokensBack", inPlace := ["internal/bytealg.IndexByteString", "internal/abi.NoEscape", "internal/bytealg.IndexString"], unfollowed := true, recurses := true, named := ["internal/bytealg.MaxLen", "unicode/utf8.first", "unicode/utf8.acceptRanges"], apart := false, laid := [("unicode/utf8.acceptRanges", laid_unicode_utf8_acceptRanges), ("unicode/utf8.first", laid_unicode_utf8_first)], narrowed := true }
def TokensBackUptoSaid : Prop := tokensBackUptoRow.holds Tryd.pinned (OpenSpec.upto tokensBackSpec)

/-- 'muslinlaw02.UtfBack', WHERE WHAT IT READS IS OF BULK AT MOST 1048576: true; the input reads as it did. -/
def utfBackUptoRow : OpenClaim := { program := "ytihgmgpcdodknaadoor", sum := "05d05e2b82116f12461af1d4168923dae3e2c52ff2621f5f6430c60d4a11c3e0", func := "muslin/muslinlaw02.UtfBack", spec := "utfBack", named := ["unicode/utf8.first", "unicode/utf8.acceptRanges"], apart := false, laid := [("unicode/utf8.acceptRanges", laid_unicode_utf8_acceptRanges), ("unicode/utf8.first", laid_unicode_utf8_first)], narrowed := true }
def UtfBackUptoSaid : Prop := utfBackUptoRow.holds Tryd.pinned (OpenSpec.upto utfBackSpec)

/-- 'muslinlaw02.UtfOwn', WHERE WHAT IT READS IS OF BULK AT MOST 1048576: true; the input reads as it did. -/
def utfOwnUptoRow : OpenClaim := { program := "ytihgmgpcdodknaadoor", sum := "05d05e2b82116f12461af1d4168923dae3e2c52ff2621f5f6430c60d4a11c3e0", func := "muslin/muslinlaw02.UtfOwn", spec := "utfOwn", unfollowed := true, recurses := true, named := ["unicode/utf8.first", "unicode/utf8.acceptRanges"], apart := false, laid := [("unicode/utf8.acceptRanges", laid_unicode_utf8_acceptRanges), ("unicode/utf8.first", laid_unicode_utf8_first)], narrowed := true }
def UtfOwnUptoSaid : Prop := utfOwnUptoRow.holds Tryd.pinned (OpenSpec.upto utfOwnSpec)

/-- 'muslinlaw02.UtfTells', WHERE WHAT IT READS IS OF BULK AT MOST 1048576: true; the input reads as it did. -/
def utfTellsUptoRow : OpenClaim := { program := "ytihgmgpcdodknaadoor", sum := "05d05e2b82116f12461af1d4168923dae3e2c52ff2621f5f6430c60d4a11c3e0", func := "muslin/muslinlaw02.UtfTells", spec := "utfTells", inPlace := ["internal/abi.NoEscape"], unfollowed := true, recurses := true, named := ["unicode/utf8.first", "unicode/utf8.acceptRanges"], apart := false, laid := [("unicode/utf8.acceptRanges", laid_unicode_utf8_acceptRanges), ("unicode/utf8.first", laid_unicode_utf8_first)], narrowed := true }
def UtfTellsUptoSaid : Prop := utfTellsUptoRow.holds Tryd.pinned (OpenSpec.upto utfTellsSpec)

/-- 'muslinlaw02.UtfRepairs', WHERE WHAT IT READS IS OF BULK AT MOST 1048576: true; the input reads as it did. -/
def utfRepairsUptoRow : OpenClaim := { program := "ytihgmgpcdodknaadoor", sum := "05d05e2b82116f12461af1d4168923dae3e2c52ff2621f5f6430c60d4a11c3e0", func := "muslin/muslinlaw02.UtfRepairs", spec := "utfRepairs", inPlace := ["internal/abi.NoEscape"], unfollowed := true, recurses := true, named := ["unicode/utf8.first", "unicode/utf8.acceptRanges"], apart := false, laid := [("unicode/utf8.acceptRanges", laid_unicode_utf8_acceptRanges), ("unicode/utf8.first", laid_unicode_utf8_first)], narrowed := true }
def UtfRepairsUptoSaid : Prop := utfRepairsUptoRow.holds Tryd.pinned (OpenSpec.upto utfRepairsSpec)

/-- 'muslinlaw06.RefsParts', WHERE WHAT IT READS IS OF BULK AT MOST 1048576: true; the input reads as it did. -/
def refsPartsUptoRow : OpenClaim := { program := "ytihgmgpcdodknaadoor", sum := "05d05e2b82116f12461af1d4168923dae3e2c52ff2621f5f6430c60d4a11c3e0", func := "muslin/muslinlaw06.RefsParts", spec := "refsParts", inPlace := ["internal/bytealg.IndexByteString", "internal/abi.NoEscape"], unfollowed := true, recurses := true, named := ["unicode/utf8.first", "unicode/utf8.acceptRanges"], apart := false, laid := [("unicode/utf8.acceptRanges", laid_unicode_utf8_acceptRanges), ("unicode/utf8.first", laid_unicode_utf8_first)], narrowed := true }
def RefsPartsUptoSaid : Prop := refsPartsUptoRow.holds Tryd.pinned (OpenSpec.upto refsPartsSpec)

/-- 'muslinlaw06.RefsNumbers', WHERE WHAT IT READS IS OF BULK AT MOST 1048576: true; the input reads as it did. -/
def refsNumbersUptoRow : OpenClaim := { program := "ytihgmgpcdodknaadoor", sum := "05d05e2b82116f12461af1d4168923dae3e2c52ff2621f5f6430c60d4a11c3e0", func := "muslin/muslinlaw06.RefsNumbers", spec := "refsNumbers", inPlace := ["internal/bytealg.IndexByteString", "internal/abi.NoEscape"], unfollowed := true, recurses := true, named := ["unicode/utf8.first", "unicode/utf8.acceptRanges"], apart := false, laid := [("unicode/utf8.acceptRanges", laid_unicode_utf8_acceptRanges), ("unicode/utf8.first", laid_unicode_utf8_first)], narrowed := true }
def RefsNumbersUptoSaid : Prop := refsNumbersUptoRow.holds Tryd.pinned (OpenSpec.upto refsNumbersSpec)

/-- 'muslinlaw06.RefsBack', WHERE WHAT IT READS IS OF BULK AT MOST 1048576: true; the input reads as it did. -/
def refsBackUptoRow : OpenClaim := { program := "ytihgmgpcdodknaadoor", sum := "05d05e2b82116f12461af1d4168923dae3e2c52ff2621f5f6430c60d4a11c3e0", func := "muslin/muslinlaw06.RefsBack", spec := "refsBack", inPlace := ["internal/abi.NoEscape", "internal/bytealg.IndexByteString"], unfollowed := true, recurses := true, named := ["unicode/utf8.first", "unicode/utf8.acceptRanges"], apart := false, laid := [("unicode/utf8.acceptRanges", laid_unicode_utf8_acceptRanges), ("unicode/utf8.first", laid_unicode_utf8_first)], narrowed := true }
def RefsBackUptoSaid : Prop := refsBackUptoRow.holds Tryd.pinned (OpenSpec.upto refsBackSpec)

/-- 'muslinlaw06.RefsWaits', WHERE WHAT IT READS IS OF BULK AT MOST 1048576: true; the input reads as it did. -/
def refsWaitsUptoRow : OpenClaim := { program := "ytihgmgpcdodknaadoor", sum := "05d05e2b82116f12461af1d4168923dae3e2c52ff2621f5f6430c60d4a11c3e0", func := "muslin/muslinlaw06.RefsWaits", spec := "refsWaits", inPlace := ["internal/bytealg.IndexByteString", "internal/abi.NoEscape"], unfollowed := true, recurses := true, named := ["unicode/utf8.first", "unicode/utf8.acceptRanges"], apart := false, laid := [("unicode/utf8.acceptRanges", laid_unicode_utf8_acceptRanges), ("unicode/utf8.first", laid_unicode_utf8_first)], narrowed := true }
def RefsWaitsUptoSaid : Prop := refsWaitsUptoRow.holds Tryd.pinned (OpenSpec.upto refsWaitsSpec)

/-- 'muslinlaw06.RefsTells', WHERE WHAT IT READS IS OF BULK AT MOST 1048576: true; the input reads as it did. -/
def refsTellsUptoRow : OpenClaim := { program := "ytihgmgpcdodknaadoor", sum := "05d05e2b82116f12461af1d4168923dae3e2c52ff2621f5f6430c60d4a11c3e0", func := "muslin/muslinlaw06.RefsTells", spec := "refsTells", inPlace := ["internal/bytealg.IndexByteString", "internal/abi.NoEscape"], unfollowed := true, recurses := true, named := ["unicode/utf8.first", "unicode/utf8.acceptRanges"], apart := false, laid := [("unicode/utf8.acceptRanges", laid_unicode_utf8_acceptRanges), ("unicode/utf8.first", laid_unicode_utf8_first)], narrowed := true }
def RefsTellsUptoSaid : Prop := refsTellsUptoRow.holds Tryd.pinned (OpenSpec.upto refsTellsSpec)

end Rows
end Go.Proofs.YtihgmgpcdodknaaDoor
