/-
  NARROWER THAN 'FOR EVERY INPUT', by the rows' own cells (each row's printed sentence says how): TidyAnswers: loops, laid · TidyForms: loops, laid · TidyHas: loops, laid · TidySums: loops, laid · TidyOnes: loops, laid · TidyCuts: loops, laid · TidyOrder: loops, laid · TidyFresh: loops, laid.
  DERIVED. THE GIVEN ROWS OF THIS SEAT. 8 by the template 'for every input the law returns true; each argument reads behind the call as it read before'; 0 by the template 'total and deterministic' (their statements: YtfilonnphgnplaaGreatDoorTotals.lean).
  GIVEN WITH THE SEED: the statements are not yours to turn. If you find one false, say at which input.
  Laid BY PROGRAM, IN A SANDBOX (cutbox-rows.mjs): the forced cells as the released guide's own fill.sh prints them over the translation f2834b1b705f8f45… (all of the seat's roots in one cut). By AI agents, Wed Nov 11 2026. No macro, syntax, notation, axiom, sorry.
-/
import Derived.Test.YtfilonnphgnplaaGreatDoorChecked
import GoSem.PinnedTables
import GoSem.Claim
import GoSem.ClaimJoined
import GoSem.ClaimMapViews
import Derived.JoinedTies
import Derived.KernelRfl
namespace Go.Proofs.YtfilonnphgnplaaGreatDoor
/- THE CELL 'sum', in the pinned program and in every row, IS THE sha256 OF THE DUMP (.gsa) THAT YtfilonnphgnplaaGreatDoorProg.lean LOADS. Nothing in Lean hashes anything: it is a label: what it is worth is what the hold of that sum in a sandbox is worth. -/
noncomputable def Tryz.pinned : Pinned := { name := "ytfilonnphgnplaagreatdoor", sum := "f2834b1b705f8f4582bccf651e3fb6013dd3c9cabbf01bc1f7aaa5e5f9676534", checked := Tryz.checked }
namespace Rows
def none {H : Type} : Left H := { results := [], args := [] }

/- WHAT THE LISTED PACKAGE-LEVEL VARIABLES READ AS WHEN THE CALL BEGINS. Each datum BY PROGRAM (the guide's laid-datum.mjs) off the statement by which the dump's own 'gosem.cut.vars' lays the variable. In a bare row this is a premise. The card (YtfilonnphgnplaaGreatDoorCards.lean) ties it to the program's text. -/
def laid_unicode_utf8_acceptRanges {H : Type} : DataW H := .agg [.agg [.lit (.int .u8 128), .lit (.int .u8 191)], .agg [.lit (.int .u8 160), .lit (.int .u8 191)], .agg [.lit (.int .u8 128), .lit (.int .u8 159)], .agg [.lit (.int .u8 144), .lit (.int .u8 191)], .agg [.lit (.int .u8 128), .lit (.int .u8 143)], .agg [.lit (.int .u8 0), .lit (.int .u8 0)], .agg [.lit (.int .u8 0), .lit (.int .u8 0)], .agg [.lit (.int .u8 0), .lit (.int .u8 0)], .agg [.lit (.int .u8 0), .lit (.int .u8 0)], .agg [.lit (.int .u8 0), .lit (.int .u8 0)], .agg [.lit (.int .u8 0), .lit (.int .u8 0)], .agg [.lit (.int .u8 0), .lit (.int .u8 0)], .agg [.lit (.int .u8 0), .lit (.int .u8 0)], .agg [.lit (.int .u8 0), .lit (.int .u8 0)], .agg [.lit (.int .u8 0), .lit (.int .u8 0)], .agg [.lit (.int .u8 0), .lit (.int .u8 0)]]
/-- One of Go's own tables, pinned by name: the form's constant. -/
def laid_unicode_utf8_first : DataW Unit := Go.Pinned.utf8First

/-- 'hallmarklaw11.TidyAnswers': WHATEVER THE INPUT: true; the input reads as it did. -/
def tidyAnswersSpec : ChangeSpec := { name := "tidyAnswers", fn := fun _ => fun
  | [d] => { results := [.lit (.bool true)], args := [d] }
  | _ => none }
def tidyAnswersRow : OpenClaim := { program := "ytfilonnphgnplaagreatdoor", sum := "f2834b1b705f8f4582bccf651e3fb6013dd3c9cabbf01bc1f7aaa5e5f9676534", func := "hallmark/hallmarklaw11.TidyAnswers", spec := "tidyAnswers", unfollowed := true, recurses := true, named := ["unicode/utf8.first", "unicode/utf8.acceptRanges"], loops := true, apart := false, laid := [("unicode/utf8.acceptRanges", laid_unicode_utf8_acceptRanges), ("unicode/utf8.first", laid_unicode_utf8_first)] }
def TidyAnswersSaid : Prop := tidyAnswersRow.holds Tryz.pinned (OpenSpec.ofChange tidyAnswersSpec)

/-- ITS FALSE NEIGHBOUR: 'it returns false'. Refute it at one input. -/
def tidyAnswersWrong : ChangeSpec := { name := "tidyAnswers", fn := fun _ => fun
  | [d] => { results := [.lit (.bool false)], args := [d] }
  | _ => none }
def TidyAnswersWrongFalsely : Prop := tidyAnswersRow.holds Tryz.pinned (OpenSpec.ofChange tidyAnswersWrong)

/-- 'hallmarklaw11.TidyForms': WHATEVER THE INPUT: true; the input reads as it did. -/
def tidyFormsSpec : ChangeSpec := { name := "tidyForms", fn := fun _ => fun
  | [d] => { results := [.lit (.bool true)], args := [d] }
  | _ => none }
def tidyFormsRow : OpenClaim := { program := "ytfilonnphgnplaagreatdoor", sum := "f2834b1b705f8f4582bccf651e3fb6013dd3c9cabbf01bc1f7aaa5e5f9676534", func := "hallmark/hallmarklaw11.TidyForms", spec := "tidyForms", unfollowed := true, recurses := true, named := ["unicode/utf8.first", "unicode/utf8.acceptRanges"], loops := true, apart := false, laid := [("unicode/utf8.acceptRanges", laid_unicode_utf8_acceptRanges), ("unicode/utf8.first", laid_unicode_utf8_first)] }
def TidyFormsSaid : Prop := tidyFormsRow.holds Tryz.pinned (OpenSpec.ofChange tidyFormsSpec)

/-- ITS FALSE NEIGHBOUR: 'it returns false'. Refute it at one input. -/
def tidyFormsWrong : ChangeSpec := { name := "tidyForms", fn := fun _ => fun
  | [d] => { results := [.lit (.bool false)], args := [d] }
  | _ => none }
def TidyFormsWrongFalsely : Prop := tidyFormsRow.holds Tryz.pinned (OpenSpec.ofChange tidyFormsWrong)

/-- 'hallmarklaw11.TidyHas': WHATEVER THE INPUT: true; the input reads as it did. -/
def tidyHasSpec : ChangeSpec := { name := "tidyHas", fn := fun _ => fun
  | [d1, d2] => { results := [.lit (.bool true)], args := [d1, d2] }
  | _ => none }
def tidyHasRow : OpenClaim := { program := "ytfilonnphgnplaagreatdoor", sum := "f2834b1b705f8f4582bccf651e3fb6013dd3c9cabbf01bc1f7aaa5e5f9676534", func := "hallmark/hallmarklaw11.TidyHas", spec := "tidyHas", unfollowed := true, recurses := true, named := ["unicode/utf8.first", "unicode/utf8.acceptRanges"], loops := true, apart := false, laid := [("unicode/utf8.acceptRanges", laid_unicode_utf8_acceptRanges), ("unicode/utf8.first", laid_unicode_utf8_first)] }
def TidyHasSaid : Prop := tidyHasRow.holds Tryz.pinned (OpenSpec.ofChange tidyHasSpec)

/-- ITS FALSE NEIGHBOUR: 'it returns false'. Refute it at one input. -/
def tidyHasWrong : ChangeSpec := { name := "tidyHas", fn := fun _ => fun
  | [d1, d2] => { results := [.lit (.bool false)], args := [d1, d2] }
  | _ => none }
def TidyHasWrongFalsely : Prop := tidyHasRow.holds Tryz.pinned (OpenSpec.ofChange tidyHasWrong)

/-- 'hallmarklaw11.TidySums': WHATEVER THE INPUT: true; the input reads as it did. -/
def tidySumsSpec : ChangeSpec := { name := "tidySums", fn := fun _ => fun
  | [d1, d2, d3] => { results := [.lit (.bool true)], args := [d1, d2, d3] }
  | _ => none }
def tidySumsRow : OpenClaim := { program := "ytfilonnphgnplaagreatdoor", sum := "f2834b1b705f8f4582bccf651e3fb6013dd3c9cabbf01bc1f7aaa5e5f9676534", func := "hallmark/hallmarklaw11.TidySums", spec := "tidySums", unfollowed := true, recurses := true, named := ["unicode/utf8.first", "unicode/utf8.acceptRanges"], loops := true, apart := false, laid := [("unicode/utf8.acceptRanges", laid_unicode_utf8_acceptRanges), ("unicode/utf8.first", laid_unicode_utf8_first)] }
def TidySumsSaid : Prop := tidySumsRow.holds Tryz.pinned (OpenSpec.ofChange tidySumsSpec)

/-- ITS FALSE NEIGHBOUR: 'it returns false'. Refute it at one input. -/
def tidySumsWrong : ChangeSpec := { name := "tidySums", fn := fun _ => fun
  | [d1, d2, d3] => { results := [.lit (.bool false)], args := [d1, d2, d3] }
  | _ => none }
def TidySumsWrongFalsely : Prop := tidySumsRow.holds Tryz.pinned (OpenSpec.ofChange tidySumsWrong)

/-- 'hallmarklaw11.TidyOnes': WHATEVER THE INPUT: true; the input reads as it did. -/
def tidyOnesSpec : ChangeSpec := { name := "tidyOnes", fn := fun _ => fun
  | [d1, d2, d3] => { results := [.lit (.bool true)], args := [d1, d2, d3] }
  | _ => none }
def tidyOnesRow : OpenClaim := { program := "ytfilonnphgnplaagreatdoor", sum := "f2834b1b705f8f4582bccf651e3fb6013dd3c9cabbf01bc1f7aaa5e5f9676534", func := "hallmark/hallmarklaw11.TidyOnes", spec := "tidyOnes", unfollowed := true, recurses := true, named := ["unicode/utf8.first", "unicode/utf8.acceptRanges"], loops := true, apart := false, laid := [("unicode/utf8.acceptRanges", laid_unicode_utf8_acceptRanges), ("unicode/utf8.first", laid_unicode_utf8_first)] }
def TidyOnesSaid : Prop := tidyOnesRow.holds Tryz.pinned (OpenSpec.ofChange tidyOnesSpec)

/-- ITS FALSE NEIGHBOUR: 'it returns false'. Refute it at one input. -/
def tidyOnesWrong : ChangeSpec := { name := "tidyOnes", fn := fun _ => fun
  | [d1, d2, d3] => { results := [.lit (.bool false)], args := [d1, d2, d3] }
  | _ => none }
def TidyOnesWrongFalsely : Prop := tidyOnesRow.holds Tryz.pinned (OpenSpec.ofChange tidyOnesWrong)

/-- 'hallmarklaw11.TidyCuts': WHATEVER THE INPUT: true; the input reads as it did. -/
def tidyCutsSpec : ChangeSpec := { name := "tidyCuts", fn := fun _ => fun
  | [d1, d2, d3] => { results := [.lit (.bool true)], args := [d1, d2, d3] }
  | _ => none }
def tidyCutsRow : OpenClaim := { program := "ytfilonnphgnplaagreatdoor", sum := "f2834b1b705f8f4582bccf651e3fb6013dd3c9cabbf01bc1f7aaa5e5f9676534", func := "hallmark/hallmarklaw11.TidyCuts", spec := "tidyCuts", unfollowed := true, recurses := true, named := ["unicode/utf8.first", "unicode/utf8.acceptRanges"], loops := true, apart := false, laid := [("unicode/utf8.acceptRanges", laid_unicode_utf8_acceptRanges), ("unicode/utf8.first", laid_unicode_utf8_first)] }
def TidyCutsSaid : Prop := tidyCutsRow.holds Tryz.pinned (OpenSpec.ofChange tidyCutsSpec)

/-- ITS FALSE NEIGHBOUR: 'it returns false'. Refute it at one input. -/
def tidyCutsWrong : ChangeSpec := { name := "tidyCuts", fn := fun _ => fun
  | [d1, d2, d3] => { results := [.lit (.bool false)], args := [d1, d2, d3] }
  | _ => none }
def TidyCutsWrongFalsely : Prop := tidyCutsRow.holds Tryz.pinned (OpenSpec.ofChange tidyCutsWrong)

/-- 'hallmarklaw11.TidyOrder': WHATEVER THE INPUT: true; the input reads as it did. -/
def tidyOrderSpec : ChangeSpec := { name := "tidyOrder", fn := fun _ => fun
  | [d] => { results := [.lit (.bool true)], args := [d] }
  | _ => none }
def tidyOrderRow : OpenClaim := { program := "ytfilonnphgnplaagreatdoor", sum := "f2834b1b705f8f4582bccf651e3fb6013dd3c9cabbf01bc1f7aaa5e5f9676534", func := "hallmark/hallmarklaw11.TidyOrder", spec := "tidyOrder", unfollowed := true, recurses := true, named := ["unicode/utf8.first", "unicode/utf8.acceptRanges"], loops := true, apart := false, laid := [("unicode/utf8.acceptRanges", laid_unicode_utf8_acceptRanges), ("unicode/utf8.first", laid_unicode_utf8_first)] }
def TidyOrderSaid : Prop := tidyOrderRow.holds Tryz.pinned (OpenSpec.ofChange tidyOrderSpec)

/-- ITS FALSE NEIGHBOUR: 'it returns false'. Refute it at one input. -/
def tidyOrderWrong : ChangeSpec := { name := "tidyOrder", fn := fun _ => fun
  | [d] => { results := [.lit (.bool false)], args := [d] }
  | _ => none }
def TidyOrderWrongFalsely : Prop := tidyOrderRow.holds Tryz.pinned (OpenSpec.ofChange tidyOrderWrong)

/-- 'hallmarklaw11.TidyFresh': WHATEVER THE INPUT: true; the input reads as it did. -/
def tidyFreshSpec : ChangeSpec := { name := "tidyFresh", fn := fun _ => fun
  | [d1, d2, d3] => { results := [.lit (.bool true)], args := [d1, d2, d3] }
  | _ => none }
def tidyFreshRow : OpenClaim := { program := "ytfilonnphgnplaagreatdoor", sum := "f2834b1b705f8f4582bccf651e3fb6013dd3c9cabbf01bc1f7aaa5e5f9676534", func := "hallmark/hallmarklaw11.TidyFresh", spec := "tidyFresh", unfollowed := true, recurses := true, named := ["unicode/utf8.first", "unicode/utf8.acceptRanges"], loops := true, apart := false, laid := [("unicode/utf8.acceptRanges", laid_unicode_utf8_acceptRanges), ("unicode/utf8.first", laid_unicode_utf8_first)] }
def TidyFreshSaid : Prop := tidyFreshRow.holds Tryz.pinned (OpenSpec.ofChange tidyFreshSpec)

/-- ITS FALSE NEIGHBOUR: 'it returns false'. Refute it at one input. -/
def tidyFreshWrong : ChangeSpec := { name := "tidyFresh", fn := fun _ => fun
  | [d1, d2, d3] => { results := [.lit (.bool false)], args := [d1, d2, d3] }
  | _ => none }
def TidyFreshWrongFalsely : Prop := tidyFreshRow.holds Tryz.pinned (OpenSpec.ofChange tidyFreshWrong)

/- THE SECOND FORM. 'bulk': how many values and letters a reading holds, each counted each time it is reached (what is shared counts as often as it is met; a slice's spare places count too). A statement '..UptoSaid' is the law's where the arguments, and the package variables that the reading takes, are together of bulk at most 1048576: NARROWER than '..Said'. Prove '..Said' where nothing that the law and all that it calls make is longer than what came in: it says more and counts as full. Else prove '..UptoSaid'. A law counts once. -/
mutual
def uptoBulk {H : Type} : DataW H → Nat
  | .lit (.string bytes) => bytes.length + 1
  | .lit _ => 1
  | .nil => 1
  | .ptr d => uptoBulk d + 1
  | .slice elems spare => uptoBulkAll elems + uptoBulkAll spare + 1
  | .agg parts => uptoBulkAll parts + 1
  | .iface _ d => uptoBulk d + 1
  | .map entries => uptoBulkEntries entries + 1
  | .held _ => 1
def uptoBulkAll {H : Type} : List (DataW H) → Nat
  | [] => 0
  | d :: r => uptoBulk d + uptoBulkAll r
def uptoBulkEntries {H : Type} : List (Lit × DataW H) → Nat
  | [] => 0
  | x :: r => uptoBulkEntry x + uptoBulkEntries r
def uptoBulkEntry {H : Type} : Lit × DataW H → Nat
  | (.string bytes, d) => bytes.length + uptoBulk d + 1
  | (_, d) => uptoBulk d + 1
 end
def uptoSmall : (H : Type) → List (DataW H) → Bool := fun _ ds => decide (uptoBulkAll ds ≤ 1048576)
def OpenSpec.upto (s : _root_.Go.ChangeSpec) : _root_.Go.OpenSpec := { _root_.Go.OpenSpec.ofChange s with cond := some uptoSmall }

/-- 'hallmarklaw11.TidyAnswers', WHERE WHAT IT READS IS OF BULK AT MOST 1048576: true; the input reads as it did. -/
def tidyAnswersUptoRow : OpenClaim := { program := "ytfilonnphgnplaagreatdoor", sum := "f2834b1b705f8f4582bccf651e3fb6013dd3c9cabbf01bc1f7aaa5e5f9676534", func := "hallmark/hallmarklaw11.TidyAnswers", spec := "tidyAnswers", unfollowed := true, recurses := true, named := ["unicode/utf8.first", "unicode/utf8.acceptRanges"], loops := true, apart := false, laid := [("unicode/utf8.acceptRanges", laid_unicode_utf8_acceptRanges), ("unicode/utf8.first", laid_unicode_utf8_first)], narrowed := true }
def TidyAnswersUptoSaid : Prop := tidyAnswersUptoRow.holds Tryz.pinned (OpenSpec.upto tidyAnswersSpec)

/-- 'hallmarklaw11.TidyForms', WHERE WHAT IT READS IS OF BULK AT MOST 1048576: true; the input reads as it did. -/
def tidyFormsUptoRow : OpenClaim := { program := "ytfilonnphgnplaagreatdoor", sum := "f2834b1b705f8f4582bccf651e3fb6013dd3c9cabbf01bc1f7aaa5e5f9676534", func := "hallmark/hallmarklaw11.TidyForms", spec := "tidyForms", unfollowed := true, recurses := true, named := ["unicode/utf8.first", "unicode/utf8.acceptRanges"], loops := true, apart := false, laid := [("unicode/utf8.acceptRanges", laid_unicode_utf8_acceptRanges), ("unicode/utf8.first", laid_unicode_utf8_first)], narrowed := true }
def TidyFormsUptoSaid : Prop := tidyFormsUptoRow.holds Tryz.pinned (OpenSpec.upto tidyFormsSpec)

/-- 'hallmarklaw11.TidyHas', WHERE WHAT IT READS IS OF BULK AT MOST 1048576: true; the input reads as it did. -/
def tidyHasUptoRow : OpenClaim := { program := "ytfilonnphgnplaagreatdoor", sum := "f2834b1b705f8f4582bccf651e3fb6013dd3c9cabbf01bc1f7aaa5e5f9676534", func := "hallmark/hallmarklaw11.TidyHas", spec := "tidyHas", unfollowed := true, recurses := true, named := ["unicode/utf8.first", "unicode/utf8.acceptRanges"], loops := true, apart := false, laid := [("unicode/utf8.acceptRanges", laid_unicode_utf8_acceptRanges), ("unicode/utf8.first", laid_unicode_utf8_first)], narrowed := true }
def TidyHasUptoSaid : Prop := tidyHasUptoRow.holds Tryz.pinned (OpenSpec.upto tidyHasSpec)

/-- 'hallmarklaw11.TidySums', WHERE WHAT IT READS IS OF BULK AT MOST 1048576: true; the input reads as it did. -/
def tidySumsUptoRow : OpenClaim := { program := "ytfilonnphgnplaagreatdoor", sum := "f2834b1b705f8f4582bccf651e3fb6013dd3c9cabbf01bc1f7aaa5e5f9676534", func := "hallmark/hallmarklaw11.TidySums", spec := "tidySums", unfollowed := true, recurses := true, named := ["unicode/utf8.first", "unicode/utf8.acceptRanges"], loops := true, apart := false, laid := [("unicode/utf8.acceptRanges", laid_unicode_utf8_acceptRanges), ("unicode/utf8.first", laid_unicode_utf8_first)], narrowed := true }
def TidySumsUptoSaid : Prop := tidySumsUptoRow.holds Tryz.pinned (OpenSpec.upto tidySumsSpec)

/-- 'hallmarklaw11.TidyOnes', WHERE WHAT IT READS IS OF BULK AT MOST 1048576: true; the input reads as it did. -/
def tidyOnesUptoRow : OpenClaim := { program := "ytfilonnphgnplaagreatdoor", sum := "f2834b1b705f8f4582bccf651e3fb6013dd3c9cabbf01bc1f7aaa5e5f9676534", func := "hallmark/hallmarklaw11.TidyOnes", spec := "tidyOnes", unfollowed := true, recurses := true, named := ["unicode/utf8.first", "unicode/utf8.acceptRanges"], loops := true, apart := false, laid := [("unicode/utf8.acceptRanges", laid_unicode_utf8_acceptRanges), ("unicode/utf8.first", laid_unicode_utf8_first)], narrowed := true }
def TidyOnesUptoSaid : Prop := tidyOnesUptoRow.holds Tryz.pinned (OpenSpec.upto tidyOnesSpec)

/-- 'hallmarklaw11.TidyCuts', WHERE WHAT IT READS IS OF BULK AT MOST 1048576: true; the input reads as it did. -/
def tidyCutsUptoRow : OpenClaim := { program := "ytfilonnphgnplaagreatdoor", sum := "f2834b1b705f8f4582bccf651e3fb6013dd3c9cabbf01bc1f7aaa5e5f9676534", func := "hallmark/hallmarklaw11.TidyCuts", spec := "tidyCuts", unfollowed := true, recurses := true, named := ["unicode/utf8.first", "unicode/utf8.acceptRanges"], loops := true, apart := false, laid := [("unicode/utf8.acceptRanges", laid_unicode_utf8_acceptRanges), ("unicode/utf8.first", laid_unicode_utf8_first)], narrowed := true }
def TidyCutsUptoSaid : Prop := tidyCutsUptoRow.holds Tryz.pinned (OpenSpec.upto tidyCutsSpec)

/-- 'hallmarklaw11.TidyOrder', WHERE WHAT IT READS IS OF BULK AT MOST 1048576: true; the input reads as it did. -/
def tidyOrderUptoRow : OpenClaim := { program := "ytfilonnphgnplaagreatdoor", sum := "f2834b1b705f8f4582bccf651e3fb6013dd3c9cabbf01bc1f7aaa5e5f9676534", func := "hallmark/hallmarklaw11.TidyOrder", spec := "tidyOrder", unfollowed := true, recurses := true, named := ["unicode/utf8.first", "unicode/utf8.acceptRanges"], loops := true, apart := false, laid := [("unicode/utf8.acceptRanges", laid_unicode_utf8_acceptRanges), ("unicode/utf8.first", laid_unicode_utf8_first)], narrowed := true }
def TidyOrderUptoSaid : Prop := tidyOrderUptoRow.holds Tryz.pinned (OpenSpec.upto tidyOrderSpec)

/-- 'hallmarklaw11.TidyFresh', WHERE WHAT IT READS IS OF BULK AT MOST 1048576: true; the input reads as it did. -/
def tidyFreshUptoRow : OpenClaim := { program := "ytfilonnphgnplaagreatdoor", sum := "f2834b1b705f8f4582bccf651e3fb6013dd3c9cabbf01bc1f7aaa5e5f9676534", func := "hallmark/hallmarklaw11.TidyFresh", spec := "tidyFresh", unfollowed := true, recurses := true, named := ["unicode/utf8.first", "unicode/utf8.acceptRanges"], loops := true, apart := false, laid := [("unicode/utf8.acceptRanges", laid_unicode_utf8_acceptRanges), ("unicode/utf8.first", laid_unicode_utf8_first)], narrowed := true }
def TidyFreshUptoSaid : Prop := tidyFreshUptoRow.holds Tryz.pinned (OpenSpec.upto tidyFreshSpec)

end Rows
end Go.Proofs.YtfilonnphgnplaaGreatDoor
