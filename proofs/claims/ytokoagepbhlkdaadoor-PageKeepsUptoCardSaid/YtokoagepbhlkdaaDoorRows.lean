/-
  NARROWER THAN 'FOR EVERY INPUT', by the rows' own cells (each row's printed sentence says how): PageMakes: laid · PageOpens: laid · PageTells: laid · PageKeeps: laid · PagePlays: laid.
  DERIVED. THE GIVEN ROWS OF THIS SEAT. 5 by the template 'for every input the law returns true; each argument reads behind the call as it read before'; 0 by the template 'total and deterministic' (their statements: YtokoagepbhlkdaaDoorTotals.lean).
  GIVEN WITH THE SEED: the statements are not yours to turn. If you find one false, say at which input.
  Laid BY PROGRAM, IN A SANDBOX (cutbox-rows.mjs): the forced cells as the released guide's own fill.sh prints them over the translation 01d1ea9f9c8d929e… (all of the seat's roots in one cut). By AI agents, Wed Nov 11 2026. No macro, syntax, notation, axiom, sorry.
-/
import Derived.Test.YtokoagepbhlkdaaDoorChecked
import GoSem.Claim
import GoSem.ClaimJoined
import GoSem.ClaimMapViews
import Derived.JoinedTies
import Derived.KernelRfl
namespace Go.Proofs.YtokoagepbhlkdaaDoor
/- THE CELL 'sum', in the pinned program and in every row, IS THE sha256 OF THE DUMP (.gsa) THAT YtokoagepbhlkdaaDoorProg.lean LOADS. Nothing in Lean hashes anything: it is a label: what it is worth is what the hold of that sum in a sandbox is worth. -/
noncomputable def Tryd.pinned : Pinned := { name := "ytokoagepbhlkdaadoor", sum := "01d1ea9f9c8d929ef45ef244255dc14059540c24ab934ba4b790033c71f7ac70", checked := Tryd.checked }
namespace Rows
def none {H : Type} : Left H := { results := [], args := [] }

/- WHAT THE LISTED PACKAGE-LEVEL VARIABLES READ AS WHEN THE CALL BEGINS. Each datum BY PROGRAM (the guide's laid-datum.mjs) off the statement by which the dump's own 'gosem.cut.vars' lays the variable. In a bare row this is a premise. The card (YtokoagepbhlkdaaDoorCards.lean) ties it to the program's text. -/
def laid_coffret_sum_nibble {H : Type} : DataW H := .agg [.lit (.int .u32 0), .lit (.int .u32 498536548), .lit (.int .u32 997073096), .lit (.int .u32 651767980), .lit (.int .u32 1994146192), .lit (.int .u32 1802195444), .lit (.int .u32 1303535960), .lit (.int .u32 1342533948), .lit (.int .u32 3988292384), .lit (.int .u32 4027552580), .lit (.int .u32 3604390888), .lit (.int .u32 3412177804), .lit (.int .u32 2607071920), .lit (.int .u32 2262029012), .lit (.int .u32 2685067896), .lit (.int .u32 3183342108)]
def laid_errors_errorType {H : Type} : DataW H := .iface "internal/reflectlite.rtype" (.agg [.ptr (.lit (.string [101, 114, 114, 111, 114]))])

/-- 'coffretlaw12.PageMakes': WHATEVER THE INPUT: true; the input reads as it did. -/
def pageMakesSpec : ChangeSpec := { name := "pageMakes", fn := fun _ => fun
  | [d1, d2, d3] => { results := [.lit (.bool true)], args := [d1, d2, d3] }
  | _ => none }
def pageMakesRow : OpenClaim := { program := "ytokoagepbhlkdaadoor", sum := "01d1ea9f9c8d929ef45ef244255dc14059540c24ab934ba4b790033c71f7ac70", func := "coffret/coffretlaw12.PageMakes", spec := "pageMakes", named := ["coffret/sum.nibble"], apart := false, laid := [("coffret/sum.nibble", laid_coffret_sum_nibble)] }
def PageMakesSaid : Prop := pageMakesRow.holds Tryd.pinned (OpenSpec.ofChange pageMakesSpec)

/-- ITS FALSE NEIGHBOUR: 'it returns false'. Refute it at one input. -/
def pageMakesWrong : ChangeSpec := { name := "pageMakes", fn := fun _ => fun
  | [d1, d2, d3] => { results := [.lit (.bool false)], args := [d1, d2, d3] }
  | _ => none }
def PageMakesWrongFalsely : Prop := pageMakesRow.holds Tryd.pinned (OpenSpec.ofChange pageMakesWrong)

/-- 'coffretlaw12.PageOpens': WHATEVER THE INPUT: true; the input reads as it did. -/
def pageOpensSpec : ChangeSpec := { name := "pageOpens", fn := fun _ => fun
  | [d1, d2] => { results := [.lit (.bool true)], args := [d1, d2] }
  | _ => none }
def pageOpensRow : OpenClaim := { program := "ytokoagepbhlkdaadoor", sum := "01d1ea9f9c8d929ef45ef244255dc14059540c24ab934ba4b790033c71f7ac70", func := "coffret/coffretlaw12.PageOpens", spec := "pageOpens", named := ["coffret/sum.nibble"], apart := false, laid := [("coffret/sum.nibble", laid_coffret_sum_nibble)] }
def PageOpensSaid : Prop := pageOpensRow.holds Tryd.pinned (OpenSpec.ofChange pageOpensSpec)

/-- ITS FALSE NEIGHBOUR: 'it returns false'. Refute it at one input. -/
def pageOpensWrong : ChangeSpec := { name := "pageOpens", fn := fun _ => fun
  | [d1, d2] => { results := [.lit (.bool false)], args := [d1, d2] }
  | _ => none }
def PageOpensWrongFalsely : Prop := pageOpensRow.holds Tryd.pinned (OpenSpec.ofChange pageOpensWrong)

/-- 'coffretlaw12.PageTells': WHATEVER THE INPUT: true; the input reads as it did. -/
def pageTellsSpec : ChangeSpec := { name := "pageTells", fn := fun _ => fun
  | [d1, d2, d3, d4, d5] => { results := [.lit (.bool true)], args := [d1, d2, d3, d4, d5] }
  | _ => none }
def pageTellsRow : OpenClaim := { program := "ytokoagepbhlkdaadoor", sum := "01d1ea9f9c8d929ef45ef244255dc14059540c24ab934ba4b790033c71f7ac70", func := "coffret/coffretlaw12.PageTells", spec := "pageTells", named := ["coffret/sum.nibble"], apart := false, laid := [("coffret/sum.nibble", laid_coffret_sum_nibble)] }
def PageTellsSaid : Prop := pageTellsRow.holds Tryd.pinned (OpenSpec.ofChange pageTellsSpec)

/-- ITS FALSE NEIGHBOUR: 'it returns false'. Refute it at one input. -/
def pageTellsWrong : ChangeSpec := { name := "pageTells", fn := fun _ => fun
  | [d1, d2, d3, d4, d5] => { results := [.lit (.bool false)], args := [d1, d2, d3, d4, d5] }
  | _ => none }
def PageTellsWrongFalsely : Prop := pageTellsRow.holds Tryd.pinned (OpenSpec.ofChange pageTellsWrong)

/-- 'coffretlaw12.PageKeeps': WHATEVER THE INPUT: true; the input reads as it did. -/
def pageKeepsSpec : ChangeSpec := { name := "pageKeeps", fn := fun _ => fun
  | [d1, d2] => { results := [.lit (.bool true)], args := [d1, d2] }
  | _ => none }
def pageKeepsRow : OpenClaim := { program := "ytokoagepbhlkdaadoor", sum := "01d1ea9f9c8d929ef45ef244255dc14059540c24ab934ba4b790033c71f7ac70", func := "coffret/coffretlaw12.PageKeeps", spec := "pageKeeps", unfollowed := true, recurses := true, named := ["coffret/sum.nibble"], apart := false, laid := [("coffret/sum.nibble", laid_coffret_sum_nibble)] }
def PageKeepsSaid : Prop := pageKeepsRow.holds Tryd.pinned (OpenSpec.ofChange pageKeepsSpec)

/-- ITS FALSE NEIGHBOUR: 'it returns false'. Refute it at one input. -/
def pageKeepsWrong : ChangeSpec := { name := "pageKeeps", fn := fun _ => fun
  | [d1, d2] => { results := [.lit (.bool false)], args := [d1, d2] }
  | _ => none }
def PageKeepsWrongFalsely : Prop := pageKeepsRow.holds Tryd.pinned (OpenSpec.ofChange pageKeepsWrong)

/-- 'coffretlaw12.PagePlays': WHATEVER THE INPUT: true; the input reads as it did. -/
def pagePlaysSpec : ChangeSpec := { name := "pagePlays", fn := fun _ => fun
  | [d1, d2] => { results := [.lit (.bool true)], args := [d1, d2] }
  | _ => none }
def pagePlaysRow : OpenClaim := { program := "ytokoagepbhlkdaadoor", sum := "01d1ea9f9c8d929ef45ef244255dc14059540c24ab934ba4b790033c71f7ac70", func := "coffret/coffretlaw12.PagePlays", spec := "pagePlays", inPlace := ["internal/reflectlite.ValueOf", "(internal/reflectlite.Value).Type", "(internal/reflectlite.Value).IsNil", "internal/reflectlite.TypeOf", "(internal/reflectlite.Value).Elem", "(internal/reflectlite.Value).Set"], unfollowed := true, recurses := true, named := ["coffret/sum.nibble", "errors.errorType"], apart := false, laid := [("errors.errorType", laid_errors_errorType), ("coffret/sum.nibble", laid_coffret_sum_nibble)] }
def PagePlaysSaid : Prop := pagePlaysRow.holds Tryd.pinned (OpenSpec.ofChange pagePlaysSpec)

/-- ITS FALSE NEIGHBOUR: 'it returns false'. Refute it at one input. -/
def pagePlaysWrong : ChangeSpec := { name := "pagePlays", fn := fun _ => fun
  | [d1, d2] => { results := [.lit (.bool false)], args := [d1, d2] }
  | _ => none }
def PagePlaysWrongFalsely : Prop := pagePlaysRow.holds Tryd.pinned (OpenSpec.ofChange pagePlaysWrong)

/- THE SECOND FORM. 'bulk': how many values and letters a reading holds, each counted each time it is reached (what is shared counts as often as it is met; a slice's spare places count too). A statement '..UptoSaid' is the law's where the arguments, and the package variables that the reading takes, are together of bulk at most 1048576: NARROWER than '..Said'. Prove '..Said' where nothing that the law and all that it calls make is longer than what came in: it says more and counts as full. Else prove '..UptoSaid'. A law counts once. -/
mutual
def uptoBulk {H : Type} : DataW H → Nat
  | .lit (.string bytes) => bytes.length + 1
  | .lit _ => 1
  | .nil => 1
  | .ptr d => uptoBulk d + 1
  | .slice elems spare => uptoBulkAll elems + uptoBulkAll spare + 1
  | .agg parts => uptoBulkAll parts + 1
  | .iface _ d => uptoBulk d + 1
  | .map entries => uptoBulkEntries entries + 1
  | .held _ => 1
def uptoBulkAll {H : Type} : List (DataW H) → Nat
  | [] => 0
  | d :: r => uptoBulk d + uptoBulkAll r
def uptoBulkEntries {H : Type} : List (Lit × DataW H) → Nat
  | [] => 0
  | x :: r => uptoBulkEntry x + uptoBulkEntries r
def uptoBulkEntry {H : Type} : Lit × DataW H → Nat
  | (.string bytes, d) => bytes.length + uptoBulk d + 1
  | (_, d) => uptoBulk d + 1
 end
def uptoSmall : (H : Type) → List (DataW H) → Bool := fun _ ds => decide (uptoBulkAll ds ≤ 1048576)
def OpenSpec.upto (s : _root_.Go.ChangeSpec) : _root_.Go.OpenSpec := { _root_.Go.OpenSpec.ofChange s with cond := some uptoSmall }

/-- 'coffretlaw12.PageMakes', WHERE WHAT IT READS IS OF BULK AT MOST 1048576: true; the input reads as it did. -/
def pageMakesUptoRow : OpenClaim := { program := "ytokoagepbhlkdaadoor", sum := "01d1ea9f9c8d929ef45ef244255dc14059540c24ab934ba4b790033c71f7ac70", func := "coffret/coffretlaw12.PageMakes", spec := "pageMakes", named := ["coffret/sum.nibble"], apart := false, laid := [("coffret/sum.nibble", laid_coffret_sum_nibble)], narrowed := true }
def PageMakesUptoSaid : Prop := pageMakesUptoRow.holds Tryd.pinned (OpenSpec.upto pageMakesSpec)

/-- 'coffretlaw12.PageOpens', WHERE WHAT IT READS IS OF BULK AT MOST 1048576: true; the input reads as it did. -/
def pageOpensUptoRow : OpenClaim := { program := "ytokoagepbhlkdaadoor", sum := "01d1ea9f9c8d929ef45ef244255dc14059540c24ab934ba4b790033c71f7ac70", func := "coffret/coffretlaw12.PageOpens", spec := "pageOpens", named := ["coffret/sum.nibble"], apart := false, laid := [("coffret/sum.nibble", laid_coffret_sum_nibble)], narrowed := true }
def PageOpensUptoSaid : Prop := pageOpensUptoRow.holds Tryd.pinned (OpenSpec.upto pageOpensSpec)

/-- 'coffretlaw12.PageTells', WHERE WHAT IT READS IS OF BULK AT MOST 1048576: true; the input reads as it did. -/
def pageTellsUptoRow : OpenClaim := { program := "ytokoagepbhlkdaadoor", sum := "01d1ea9f9c8d929ef45ef244255dc14059540c24ab934ba4b790033c71f7ac70", func := "coffret/coffretlaw12.PageTells", spec := "pageTells", named := ["coffret/sum.nibble"], apart := false, laid := [("coffret/sum.nibble", laid_coffret_sum_nibble)], narrowed := true }
def PageTellsUptoSaid : Prop := pageTellsUptoRow.holds Tryd.pinned (OpenSpec.upto pageTellsSpec)

/-- 'coffretlaw12.PageKeeps', WHERE WHAT IT READS IS OF BULK AT MOST 1048576: true; the input reads as it did. -/
def pageKeepsUptoRow : OpenClaim := { program := "ytokoagepbhlkdaadoor", sum := "01d1ea9f9c8d929ef45ef244255dc14059540c24ab934ba4b790033c71f7ac70", func := "coffret/coffretlaw12.PageKeeps", spec := "pageKeeps", unfollowed := true, recurses := true, named := ["coffret/sum.nibble"], apart := false, laid := [("coffret/sum.nibble", laid_coffret_sum_nibble)], narrowed := true }
def PageKeepsUptoSaid : Prop := pageKeepsUptoRow.holds Tryd.pinned (OpenSpec.upto pageKeepsSpec)

/-- 'coffretlaw12.PagePlays', WHERE WHAT IT READS IS OF BULK AT MOST 1048576: true; the input reads as it did. -/
def pagePlaysUptoRow : OpenClaim := { program := "ytokoagepbhlkdaadoor", sum := "01d1ea9f9c8d929ef45ef244255dc14059540c24ab934ba4b790033c71f7ac70", func := "coffret/coffretlaw12.PagePlays", spec := "pagePlays", inPlace := ["internal/reflectlite.ValueOf", "(internal/reflectlite.Value).Type", "(internal/reflectlite.Value).IsNil", "internal/reflectlite.TypeOf", "(internal/reflectlite.Value).Elem", "(internal/reflectlite.Value).Set"], unfollowed := true, recurses := true, named := ["coffret/sum.nibble", "errors.errorType"], apart := false, laid := [("errors.errorType", laid_errors_errorType), ("coffret/sum.nibble", laid_coffret_sum_nibble)], narrowed := true }
def PagePlaysUptoSaid : Prop := pagePlaysUptoRow.holds Tryd.pinned (OpenSpec.upto pagePlaysSpec)

end Rows
end Go.Proofs.YtokoagepbhlkdaaDoor
