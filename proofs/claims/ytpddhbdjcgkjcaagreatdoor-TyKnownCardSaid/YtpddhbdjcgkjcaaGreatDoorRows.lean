/-
  NARROWER THAN 'FOR EVERY INPUT', by the rows' own cells (each row's printed sentence says how): TyLooks: laid · TyMakes: laid · TyTexts: laid · TyUnions: laid · TyRecords: laid · TyKnown: laid.
  DERIVED. THE GIVEN ROWS OF THIS SEAT. 6 by the template 'for every input the law returns true; each argument reads behind the call as it read before'; 0 by the template 'total and deterministic' (their statements: YtpddhbdjcgkjcaaGreatDoorTotals.lean).
  GIVEN WITH THE SEED: the statements are not yours to turn. If you find one false, say at which input.
  Laid BY PROGRAM, IN A SANDBOX (cutbox-rows.mjs): the forced cells as the released guide's own fill.sh prints them over the translation 6e124f4d3901d50f… (all of the seat's roots in one cut). By AI agents, Wed Nov 11 2026. No macro, syntax, notation, axiom, sorry.
-/
import Derived.Test.YtpddhbdjcgkjcaaGreatDoorChecked
import GoSem.PinnedTables
import GoSem.Claim
import GoSem.ClaimJoined
import GoSem.ClaimMapViews
import Derived.JoinedTies
import Derived.KernelRfl
namespace Go.Proofs.YtpddhbdjcgkjcaaGreatDoor
/- THE CELL 'sum', in the pinned program and in every row, IS THE sha256 OF THE DUMP (.gsa) THAT YtpddhbdjcgkjcaaGreatDoorProg.lean LOADS. Nothing in Lean hashes anything: it is a label: what it is worth is what the hold of that sum in a sandbox is worth. -/
noncomputable def Tryz.pinned : Pinned := { name := "ytpddhbdjcgkjcaagreatdoor", sum := "6e124f4d3901d50fb1fb4474f7b3613c04077e31223c3b4160f57b88db30fb3a", checked := Tryz.checked }
namespace Rows
def none {H : Type} : Left H := { results := [], args := [] }

/- WHAT THE LISTED PACKAGE-LEVEL VARIABLES READ AS WHEN THE CALL BEGINS. Each datum BY PROGRAM (the guide's laid-datum.mjs) off the statement by which the dump's own 'gosem.cut.vars' lays the variable. In a bare row this is a premise. The card (YtpddhbdjcgkjcaaGreatDoorCards.lean) ties it to the program's text. -/
def laid_unicode_utf8_acceptRanges {H : Type} : DataW H := .agg [.agg [.lit (.int .u8 128), .lit (.int .u8 191)], .agg [.lit (.int .u8 160), .lit (.int .u8 191)], .agg [.lit (.int .u8 128), .lit (.int .u8 159)], .agg [.lit (.int .u8 144), .lit (.int .u8 191)], .agg [.lit (.int .u8 128), .lit (.int .u8 143)], .agg [.lit (.int .u8 0), .lit (.int .u8 0)], .agg [.lit (.int .u8 0), .lit (.int .u8 0)], .agg [.lit (.int .u8 0), .lit (.int .u8 0)], .agg [.lit (.int .u8 0), .lit (.int .u8 0)], .agg [.lit (.int .u8 0), .lit (.int .u8 0)], .agg [.lit (.int .u8 0), .lit (.int .u8 0)], .agg [.lit (.int .u8 0), .lit (.int .u8 0)], .agg [.lit (.int .u8 0), .lit (.int .u8 0)], .agg [.lit (.int .u8 0), .lit (.int .u8 0)], .agg [.lit (.int .u8 0), .lit (.int .u8 0)], .agg [.lit (.int .u8 0), .lit (.int .u8 0)]]
/-- One of Go's own tables, pinned by name: the form's constant. -/
def laid_unicode_utf8_first : DataW Unit := Go.Pinned.utf8First

/-- 'lodgerlaw12.TyLooks': WHATEVER THE INPUT: true; the input reads as it did. -/
def tyLooksSpec : ChangeSpec := { name := "tyLooks", fn := fun _ => fun
  | [d1, d2] => { results := [.lit (.bool true)], args := [d1, d2] }
  | _ => none }
def tyLooksRow : OpenClaim := { program := "ytpddhbdjcgkjcaagreatdoor", sum := "6e124f4d3901d50fb1fb4474f7b3613c04077e31223c3b4160f57b88db30fb3a", func := "lodger/lodgerlaw12.TyLooks", spec := "tyLooks", inPlace := ["internal/bytealg.IndexByteString", "internal/bytealg.IndexString", "internal/abi.NoEscape", "internal/bytealg.abigen_runtime_cmpstring"], unfollowed := true, recurses := true, named := ["unicode/utf8.first", "unicode/utf8.acceptRanges", "internal/bytealg.MaxLen"], apart := false, laid := [("unicode/utf8.acceptRanges", laid_unicode_utf8_acceptRanges), ("unicode/utf8.first", laid_unicode_utf8_first)] }
def TyLooksSaid : Prop := tyLooksRow.holds Tryz.pinned (OpenSpec.ofChange tyLooksSpec)

/-- ITS FALSE NEIGHBOUR: 'it returns false'. Refute it at one input. -/
def tyLooksWrong : ChangeSpec := { name := "tyLooks", fn := fun _ => fun
  | [d1, d2] => { results := [.lit (.bool false)], args := [d1, d2] }
  | _ => none }
def TyLooksWrongFalsely : Prop := tyLooksRow.holds Tryz.pinned (OpenSpec.ofChange tyLooksWrong)

/-- 'lodgerlaw12.TyMakes': WHATEVER THE INPUT: true; the input reads as it did. -/
def tyMakesSpec : ChangeSpec := { name := "tyMakes", fn := fun _ => fun
  | [d1, d2] => { results := [.lit (.bool true)], args := [d1, d2] }
  | _ => none }
def tyMakesRow : OpenClaim := { program := "ytpddhbdjcgkjcaagreatdoor", sum := "6e124f4d3901d50fb1fb4474f7b3613c04077e31223c3b4160f57b88db30fb3a", func := "lodger/lodgerlaw12.TyMakes", spec := "tyMakes", inPlace := ["internal/bytealg.IndexByteString", "internal/bytealg.IndexString", "internal/abi.NoEscape", "internal/bytealg.abigen_runtime_cmpstring"], unfollowed := true, recurses := true, named := ["unicode/utf8.first", "unicode/utf8.acceptRanges", "internal/bytealg.MaxLen"], apart := false, laid := [("unicode/utf8.acceptRanges", laid_unicode_utf8_acceptRanges), ("unicode/utf8.first", laid_unicode_utf8_first)] }
def TyMakesSaid : Prop := tyMakesRow.holds Tryz.pinned (OpenSpec.ofChange tyMakesSpec)

/-- ITS FALSE NEIGHBOUR: 'it returns false'. Refute it at one input. -/
def tyMakesWrong : ChangeSpec := { name := "tyMakes", fn := fun _ => fun
  | [d1, d2] => { results := [.lit (.bool false)], args := [d1, d2] }
  | _ => none }
def TyMakesWrongFalsely : Prop := tyMakesRow.holds Tryz.pinned (OpenSpec.ofChange tyMakesWrong)

/-- 'lodgerlaw12.TyTexts': WHATEVER THE INPUT: true; the input reads as it did. -/
def tyTextsSpec : ChangeSpec := { name := "tyTexts", fn := fun _ => fun
  | [d] => { results := [.lit (.bool true)], args := [d] }
  | _ => none }
def tyTextsRow : OpenClaim := { program := "ytpddhbdjcgkjcaagreatdoor", sum := "6e124f4d3901d50fb1fb4474f7b3613c04077e31223c3b4160f57b88db30fb3a", func := "lodger/lodgerlaw12.TyTexts", spec := "tyTexts", inPlace := ["internal/bytealg.IndexByteString", "internal/bytealg.IndexString", "internal/abi.NoEscape", "internal/bytealg.abigen_runtime_cmpstring"], unfollowed := true, recurses := true, named := ["unicode/utf8.first", "unicode/utf8.acceptRanges", "internal/bytealg.MaxLen"], apart := false, laid := [("unicode/utf8.acceptRanges", laid_unicode_utf8_acceptRanges), ("unicode/utf8.first", laid_unicode_utf8_first)] }
def TyTextsSaid : Prop := tyTextsRow.holds Tryz.pinned (OpenSpec.ofChange tyTextsSpec)

/-- ITS FALSE NEIGHBOUR: 'it returns false'. Refute it at one input. -/
def tyTextsWrong : ChangeSpec := { name := "tyTexts", fn := fun _ => fun
  | [d] => { results := [.lit (.bool false)], args := [d] }
  | _ => none }
def TyTextsWrongFalsely : Prop := tyTextsRow.holds Tryz.pinned (OpenSpec.ofChange tyTextsWrong)

/-- 'lodgerlaw12.TyUnions': WHATEVER THE INPUT: true; the input reads as it did. -/
def tyUnionsSpec : ChangeSpec := { name := "tyUnions", fn := fun _ => fun
  | [d1, d2] => { results := [.lit (.bool true)], args := [d1, d2] }
  | _ => none }
def tyUnionsRow : OpenClaim := { program := "ytpddhbdjcgkjcaagreatdoor", sum := "6e124f4d3901d50fb1fb4474f7b3613c04077e31223c3b4160f57b88db30fb3a", func := "lodger/lodgerlaw12.TyUnions", spec := "tyUnions", inPlace := ["internal/bytealg.IndexByteString", "internal/bytealg.IndexString", "internal/abi.NoEscape", "internal/bytealg.abigen_runtime_cmpstring"], unfollowed := true, recurses := true, named := ["unicode/utf8.first", "unicode/utf8.acceptRanges", "internal/bytealg.MaxLen"], apart := false, laid := [("unicode/utf8.acceptRanges", laid_unicode_utf8_acceptRanges), ("unicode/utf8.first", laid_unicode_utf8_first)] }
def TyUnionsSaid : Prop := tyUnionsRow.holds Tryz.pinned (OpenSpec.ofChange tyUnionsSpec)

/-- ITS FALSE NEIGHBOUR: 'it returns false'. Refute it at one input. -/
def tyUnionsWrong : ChangeSpec := { name := "tyUnions", fn := fun _ => fun
  | [d1, d2] => { results := [.lit (.bool false)], args := [d1, d2] }
  | _ => none }
def TyUnionsWrongFalsely : Prop := tyUnionsRow.holds Tryz.pinned (OpenSpec.ofChange tyUnionsWrong)

/-- 'lodgerlaw12.TyRecords': WHATEVER THE INPUT: true; the input reads as it did. -/
def tyRecordsSpec : ChangeSpec := { name := "tyRecords", fn := fun _ => fun
  | [d1, d2] => { results := [.lit (.bool true)], args := [d1, d2] }
  | _ => none }
def tyRecordsRow : OpenClaim := { program := "ytpddhbdjcgkjcaagreatdoor", sum := "6e124f4d3901d50fb1fb4474f7b3613c04077e31223c3b4160f57b88db30fb3a", func := "lodger/lodgerlaw12.TyRecords", spec := "tyRecords", inPlace := ["internal/bytealg.IndexByteString", "internal/bytealg.IndexString", "internal/abi.NoEscape", "internal/bytealg.abigen_runtime_cmpstring"], unfollowed := true, recurses := true, named := ["unicode/utf8.first", "unicode/utf8.acceptRanges", "internal/bytealg.MaxLen"], apart := false, laid := [("unicode/utf8.acceptRanges", laid_unicode_utf8_acceptRanges), ("unicode/utf8.first", laid_unicode_utf8_first)] }
def TyRecordsSaid : Prop := tyRecordsRow.holds Tryz.pinned (OpenSpec.ofChange tyRecordsSpec)

/-- ITS FALSE NEIGHBOUR: 'it returns false'. Refute it at one input. -/
def tyRecordsWrong : ChangeSpec := { name := "tyRecords", fn := fun _ => fun
  | [d1, d2] => { results := [.lit (.bool false)], args := [d1, d2] }
  | _ => none }
def TyRecordsWrongFalsely : Prop := tyRecordsRow.holds Tryz.pinned (OpenSpec.ofChange tyRecordsWrong)

/-- 'lodgerlaw12.TyKnown': WHATEVER THE INPUT: true; the input reads as it did. -/
def tyKnownSpec : ChangeSpec := { name := "tyKnown", fn := fun _ => fun
  | [] => { results := [.lit (.bool true)], args := [] }
  | _ => none }
def tyKnownRow : OpenClaim := { program := "ytpddhbdjcgkjcaagreatdoor", sum := "6e124f4d3901d50fb1fb4474f7b3613c04077e31223c3b4160f57b88db30fb3a", func := "lodger/lodgerlaw12.TyKnown", spec := "tyKnown", inPlace := ["internal/bytealg.IndexByteString", "internal/bytealg.IndexString", "internal/abi.NoEscape", "internal/bytealg.abigen_runtime_cmpstring"], unfollowed := true, recurses := true, named := ["unicode/utf8.first", "unicode/utf8.acceptRanges", "internal/bytealg.MaxLen"], apart := false, laid := [("unicode/utf8.acceptRanges", laid_unicode_utf8_acceptRanges), ("unicode/utf8.first", laid_unicode_utf8_first)] }
def TyKnownSaid : Prop := tyKnownRow.holds Tryz.pinned (OpenSpec.ofChange tyKnownSpec)

/-- ITS FALSE NEIGHBOUR: 'it returns false'. Refute it at one input. -/
def tyKnownWrong : ChangeSpec := { name := "tyKnown", fn := fun _ => fun
  | [] => { results := [.lit (.bool false)], args := [] }
  | _ => none }
def TyKnownWrongFalsely : Prop := tyKnownRow.holds Tryz.pinned (OpenSpec.ofChange tyKnownWrong)

/- THE SECOND FORM. 'bulk': how many values and letters a reading holds, each counted each time it is reached (what is shared counts as often as it is met; a slice's spare places count too). A statement '..UptoSaid' is the law's where the arguments, and the package variables that the reading takes, are together of bulk at most 1048576: NARROWER than '..Said'. Prove '..Said' where nothing that the law and all that it calls make is longer than what came in: it says more and counts as full. Else prove '..UptoSaid'. A law counts once. -/
mutual
def uptoBulk {H : Type} : DataW H → Nat
  | .lit (.string bytes) => bytes.length + 1
  | .lit _ => 1
  | .nil => 1
  | .ptr d => uptoBulk d + 1
  | .slice elems spare => uptoBulkAll elems + uptoBulkAll spare + 1
  | .agg parts => uptoBulkAll parts + 1
  | .iface _ d => uptoBulk d + 1
  | .map entries => uptoBulkEntries entries + 1
  | .held _ => 1
def uptoBulkAll {H : Type} : List (DataW H) → Nat
  | [] => 0
  | d :: r => uptoBulk d + uptoBulkAll r
def uptoBulkEntries {H : Type} : List (Lit × DataW H) → Nat
  | [] => 0
  | x :: r => uptoBulkEntry x + uptoBulkEntries r
def uptoBulkEntry {H : Type} : Lit × DataW H → Nat
  | (.string bytes, d) => bytes.length + uptoBulk d + 1
  | (_, d) => uptoBulk d + 1
 end
def uptoSmall : (H : Type) → List (DataW H) → Bool := fun _ ds => decide (uptoBulkAll ds ≤ 1048576)
def OpenSpec.upto (s : _root_.Go.ChangeSpec) : _root_.Go.OpenSpec := { _root_.Go.OpenSpec.ofChange s with cond := some uptoSmall }

/-- 'lodgerlaw12.TyLooks', WHERE WHAT IT READS IS OF BULK AT MOST 1048576: true; the input reads as it did. -/
def tyLooksUptoRow : OpenClaim := { program := "ytpddhbdjcgkjcaagreatdoor", sum := "6e124f4d3901d50fb1fb4474f7b3613c04077e31223c3b4160f57b88db30fb3a", func := "lodger/lodgerlaw12.TyLooks", spec := "tyLooks", inPlace := ["internal/bytealg.IndexByteString", "internal/bytealg.IndexString", "internal/abi.NoEscape", "internal/bytealg.abigen_runtime_cmpstring"], unfollowed := true, recurses := true, named := ["unicode/utf8.first", "unicode/utf8.acceptRanges", "internal/bytealg.MaxLen"], apart := false, laid := [("unicode/utf8.acceptRanges", laid_unicode_utf8_acceptRanges), ("unicode/utf8.first", laid_unicode_utf8_first)], narrowed := true }
def TyLooksUptoSaid : Prop := tyLooksUptoRow.holds Tryz.pinned (OpenSpec.upto tyLooksSpec)

/-- 'lodgerlaw12.TyMakes', WHERE WHAT IT READS IS OF BULK AT MOST 1048576: true; the input reads as it did. -/
def tyMakesUptoRow : OpenClaim := { program := "ytpddhbdjcgkjcaagreatdoor", sum := "6e124f4d3901d50fb1fb4474f7b3613c04077e31223c3b4160f57b88db30fb3a", func := "lodger/lodgerlaw12.TyMakes", spec := "tyMakes", inPlace := ["internal/bytealg.IndexByteString", "internal/bytealg.IndexString", "internal/abi.NoEscape", "internal/bytealg.abigen_runtime_cmpstring"], unfollowed := true, recurses := true, named := ["unicode/utf8.first", "unicode/utf8.acceptRanges", "internal/bytealg.MaxLen"], apart := false, laid := [("unicode/utf8.acceptRanges", laid_unicode_utf8_acceptRanges), ("unicode/utf8.first", laid_unicode_utf8_first)], narrowed := true }
def TyMakesUptoSaid : Prop := tyMakesUptoRow.holds Tryz.pinned (OpenSpec.upto tyMakesSpec)

/-- 'lodgerlaw12.TyTexts', WHERE WHAT IT READS IS OF BULK AT MOST 1048576: true; the input reads as it did. -/
def tyTextsUptoRow : OpenClaim := { program := "ytpddhbdjcgkjcaagreatdoor", sum := "6e124f4d3901d50fb1fb4474f7b3613c04077e31223c3b4160f57b88db30fb3a", func := "lodger/lodgerlaw12.TyTexts", spec := "tyTexts", inPlace := ["internal/bytealg.IndexByteString", "internal/bytealg.IndexString", "internal/abi.NoEscape", "internal/bytealg.abigen_runtime_cmpstring"], unfollowed := true, recurses := true, named := ["unicode/utf8.first", "unicode/utf8.acceptRanges", "internal/bytealg.MaxLen"], apart := false, laid := [("unicode/utf8.acceptRanges", laid_unicode_utf8_acceptRanges), ("unicode/utf8.first", laid_unicode_utf8_first)], narrowed := true }
def TyTextsUptoSaid : Prop := tyTextsUptoRow.holds Tryz.pinned (OpenSpec.upto tyTextsSpec)

/-- 'lodgerlaw12.TyUnions', WHERE WHAT IT READS IS OF BULK AT MOST 1048576: true; the input reads as it did. -/
def tyUnionsUptoRow : OpenClaim := { program := "ytpddhbdjcgkjcaagreatdoor", sum := "6e124f4d3901d50fb1fb4474f7b3613c04077e31223c3b4160f57b88db30fb3a", func := "lodger/lodgerlaw12.TyUnions", spec := "tyUnions", inPlace := ["internal/bytealg.IndexByteString", "internal/bytealg.IndexString", "internal/abi.NoEscape", "internal/bytealg.abigen_runtime_cmpstring"], unfollowed := true, recurses := true, named := ["unicode/utf8.first", "unicode/utf8.acceptRanges", "internal/bytealg.MaxLen"], apart := false, laid := [("unicode/utf8.acceptRanges", laid_unicode_utf8_acceptRanges), ("unicode/utf8.first", laid_unicode_utf8_first)], narrowed := true }
def TyUnionsUptoSaid : Prop := tyUnionsUptoRow.holds Tryz.pinned (OpenSpec.upto tyUnionsSpec)

/-- 'lodgerlaw12.TyRecords', WHERE WHAT IT READS IS OF BULK AT MOST 1048576: true; the input reads as it did. -/
def tyRecordsUptoRow : OpenClaim := { program := "ytpddhbdjcgkjcaagreatdoor", sum := "6e124f4d3901d50fb1fb4474f7b3613c04077e31223c3b4160f57b88db30fb3a", func := "lodger/lodgerlaw12.TyRecords", spec := "tyRecords", inPlace := ["internal/bytealg.IndexByteString", "internal/bytealg.IndexString", "internal/abi.NoEscape", "internal/bytealg.abigen_runtime_cmpstring"], unfollowed := true, recurses := true, named := ["unicode/utf8.first", "unicode/utf8.acceptRanges", "internal/bytealg.MaxLen"], apart := false, laid := [("unicode/utf8.acceptRanges", laid_unicode_utf8_acceptRanges), ("unicode/utf8.first", laid_unicode_utf8_first)], narrowed := true }
def TyRecordsUptoSaid : Prop := tyRecordsUptoRow.holds Tryz.pinned (OpenSpec.upto tyRecordsSpec)

/-- 'lodgerlaw12.TyKnown', WHERE WHAT IT READS IS OF BULK AT MOST 1048576: true; the input reads as it did. -/
def tyKnownUptoRow : OpenClaim := { program := "ytpddhbdjcgkjcaagreatdoor", sum := "6e124f4d3901d50fb1fb4474f7b3613c04077e31223c3b4160f57b88db30fb3a", func := "lodger/lodgerlaw12.TyKnown", spec := "tyKnown", inPlace := ["internal/bytealg.IndexByteString", "internal/bytealg.IndexString", "internal/abi.NoEscape", "internal/bytealg.abigen_runtime_cmpstring"], unfollowed := true, recurses := true, named := ["unicode/utf8.first", "unicode/utf8.acceptRanges", "internal/bytealg.MaxLen"], apart := false, laid := [("unicode/utf8.acceptRanges", laid_unicode_utf8_acceptRanges), ("unicode/utf8.first", laid_unicode_utf8_first)], narrowed := true }
def TyKnownUptoSaid : Prop := tyKnownUptoRow.holds Tryz.pinned (OpenSpec.upto tyKnownSpec)

end Rows
end Go.Proofs.YtpddhbdjcgkjcaaGreatDoor
