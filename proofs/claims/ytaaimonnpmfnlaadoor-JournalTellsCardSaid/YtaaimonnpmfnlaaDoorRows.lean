/-
  NARROWER THAN 'FOR EVERY INPUT', by the rows' own cells (each row's printed sentence says how): JournalFrames: laid · JournalScans: laid · JournalTells: laid · JournalGrows: laid · JournalBack: laid · JournalPower: laid.
  DERIVED. THE GIVEN ROWS OF THIS SEAT. 6 by the template 'for every input the law returns true; each argument reads behind the call as it read before'; 0 by the template 'total and deterministic' (their statements: YtaaimonnpmfnlaaDoorTotals.lean).
  GIVEN WITH THE SEED: the statements are not yours to turn. If you find one false, say at which input.
  Laid BY PROGRAM, IN A SANDBOX (cutbox-rows.mjs): the forced cells as the released guide's own fill.sh prints them over the translation 6c130f8a57094e5c… (all of the seat's roots in one cut). By AI agents, Wed Nov 11 2026. No macro, syntax, notation, axiom, sorry.
-/
import Derived.Test.YtaaimonnpmfnlaaDoorChecked
import GoSem.Claim
import GoSem.ClaimJoined
import GoSem.ClaimMapViews
import Derived.JoinedTies
import Derived.KernelRfl
namespace Go.Proofs.YtaaimonnpmfnlaaDoor
/- THE CELL 'sum', in the pinned program and in every row, IS THE sha256 OF THE DUMP (.gsa) THAT YtaaimonnpmfnlaaDoorProg.lean LOADS. Nothing in Lean hashes anything: it is a label: what it is worth is what the hold of that sum in a sandbox is worth. -/
noncomputable def Tryd.pinned : Pinned := { name := "ytaaimonnpmfnlaadoor", sum := "6c130f8a57094e5cb91019642ce139f651877d74d737568d27397a9f5b7f79b5", checked := Tryd.checked }
namespace Rows
def none {H : Type} : Left H := { results := [], args := [] }

/- WHAT THE LISTED PACKAGE-LEVEL VARIABLES READ AS WHEN THE CALL BEGINS. Each datum BY PROGRAM (the guide's laid-datum.mjs) off the statement by which the dump's own 'gosem.cut.vars' lays the variable. In a bare row this is a premise. The card (YtaaimonnpmfnlaaDoorCards.lean) ties it to the program's text. -/
def laid_coffret_sum_nibble {H : Type} : DataW H := .agg [.lit (.int .u32 0), .lit (.int .u32 498536548), .lit (.int .u32 997073096), .lit (.int .u32 651767980), .lit (.int .u32 1994146192), .lit (.int .u32 1802195444), .lit (.int .u32 1303535960), .lit (.int .u32 1342533948), .lit (.int .u32 3988292384), .lit (.int .u32 4027552580), .lit (.int .u32 3604390888), .lit (.int .u32 3412177804), .lit (.int .u32 2607071920), .lit (.int .u32 2262029012), .lit (.int .u32 2685067896), .lit (.int .u32 3183342108)]
def laid_errors_errorType {H : Type} : DataW H := .iface "internal/reflectlite.rtype" (.agg [.ptr (.lit (.string [101, 114, 114, 111, 114]))])

/-- 'coffretlaw15.JournalFrames': WHATEVER THE INPUT: true; the input reads as it did. -/
def journalFramesSpec : ChangeSpec := { name := "journalFrames", fn := fun _ => fun
  | [d1, d2, d3] => { results := [.lit (.bool true)], args := [d1, d2, d3] }
  | _ => none }
def journalFramesRow : OpenClaim := { program := "ytaaimonnpmfnlaadoor", sum := "6c130f8a57094e5cb91019642ce139f651877d74d737568d27397a9f5b7f79b5", func := "coffret/coffretlaw15.JournalFrames", spec := "journalFrames", named := ["coffret/sum.nibble"], apart := false, laid := [("coffret/sum.nibble", laid_coffret_sum_nibble)] }
def JournalFramesSaid : Prop := journalFramesRow.holds Tryd.pinned (OpenSpec.ofChange journalFramesSpec)

/-- ITS FALSE NEIGHBOUR: 'it returns false'. Refute it at one input. -/
def journalFramesWrong : ChangeSpec := { name := "journalFrames", fn := fun _ => fun
  | [d1, d2, d3] => { results := [.lit (.bool false)], args := [d1, d2, d3] }
  | _ => none }
def JournalFramesWrongFalsely : Prop := journalFramesRow.holds Tryd.pinned (OpenSpec.ofChange journalFramesWrong)

/-- 'coffretlaw15.JournalScans': WHATEVER THE INPUT: true; the input reads as it did. -/
def journalScansSpec : ChangeSpec := { name := "journalScans", fn := fun _ => fun
  | [d1, d2] => { results := [.lit (.bool true)], args := [d1, d2] }
  | _ => none }
def journalScansRow : OpenClaim := { program := "ytaaimonnpmfnlaadoor", sum := "6c130f8a57094e5cb91019642ce139f651877d74d737568d27397a9f5b7f79b5", func := "coffret/coffretlaw15.JournalScans", spec := "journalScans", named := ["coffret/sum.nibble"], apart := false, laid := [("coffret/sum.nibble", laid_coffret_sum_nibble)] }
def JournalScansSaid : Prop := journalScansRow.holds Tryd.pinned (OpenSpec.ofChange journalScansSpec)

/-- ITS FALSE NEIGHBOUR: 'it returns false'. Refute it at one input. -/
def journalScansWrong : ChangeSpec := { name := "journalScans", fn := fun _ => fun
  | [d1, d2] => { results := [.lit (.bool false)], args := [d1, d2] }
  | _ => none }
def JournalScansWrongFalsely : Prop := journalScansRow.holds Tryd.pinned (OpenSpec.ofChange journalScansWrong)

/-- 'coffretlaw15.JournalTells': WHATEVER THE INPUT: true; the input reads as it did. -/
def journalTellsSpec : ChangeSpec := { name := "journalTells", fn := fun _ => fun
  | [d1, d2, d3, d4, d5] => { results := [.lit (.bool true)], args := [d1, d2, d3, d4, d5] }
  | _ => none }
def journalTellsRow : OpenClaim := { program := "ytaaimonnpmfnlaadoor", sum := "6c130f8a57094e5cb91019642ce139f651877d74d737568d27397a9f5b7f79b5", func := "coffret/coffretlaw15.JournalTells", spec := "journalTells", named := ["coffret/sum.nibble"], apart := false, laid := [("coffret/sum.nibble", laid_coffret_sum_nibble)] }
def JournalTellsSaid : Prop := journalTellsRow.holds Tryd.pinned (OpenSpec.ofChange journalTellsSpec)

/-- ITS FALSE NEIGHBOUR: 'it returns false'. Refute it at one input. -/
def journalTellsWrong : ChangeSpec := { name := "journalTells", fn := fun _ => fun
  | [d1, d2, d3, d4, d5] => { results := [.lit (.bool false)], args := [d1, d2, d3, d4, d5] }
  | _ => none }
def JournalTellsWrongFalsely : Prop := journalTellsRow.holds Tryd.pinned (OpenSpec.ofChange journalTellsWrong)

/-- 'coffretlaw15.JournalGrows': WHATEVER THE INPUT: true; the input reads as it did. -/
def journalGrowsSpec : ChangeSpec := { name := "journalGrows", fn := fun _ => fun
  | [d1, d2, d3] => { results := [.lit (.bool true)], args := [d1, d2, d3] }
  | _ => none }
def journalGrowsRow : OpenClaim := { program := "ytaaimonnpmfnlaadoor", sum := "6c130f8a57094e5cb91019642ce139f651877d74d737568d27397a9f5b7f79b5", func := "coffret/coffretlaw15.JournalGrows", spec := "journalGrows", unfollowed := true, recurses := true, named := ["coffret/sum.nibble"], apart := false, laid := [("coffret/sum.nibble", laid_coffret_sum_nibble)] }
def JournalGrowsSaid : Prop := journalGrowsRow.holds Tryd.pinned (OpenSpec.ofChange journalGrowsSpec)

/-- ITS FALSE NEIGHBOUR: 'it returns false'. Refute it at one input. -/
def journalGrowsWrong : ChangeSpec := { name := "journalGrows", fn := fun _ => fun
  | [d1, d2, d3] => { results := [.lit (.bool false)], args := [d1, d2, d3] }
  | _ => none }
def JournalGrowsWrongFalsely : Prop := journalGrowsRow.holds Tryd.pinned (OpenSpec.ofChange journalGrowsWrong)

/-- 'coffretlaw15.JournalBack': WHATEVER THE INPUT: true; the input reads as it did. -/
def journalBackSpec : ChangeSpec := { name := "journalBack", fn := fun _ => fun
  | [d1, d2, d3] => { results := [.lit (.bool true)], args := [d1, d2, d3] }
  | _ => none }
def journalBackRow : OpenClaim := { program := "ytaaimonnpmfnlaadoor", sum := "6c130f8a57094e5cb91019642ce139f651877d74d737568d27397a9f5b7f79b5", func := "coffret/coffretlaw15.JournalBack", spec := "journalBack", inPlace := ["internal/reflectlite.ValueOf", "(internal/reflectlite.Value).Type", "(internal/reflectlite.Value).IsNil", "internal/reflectlite.TypeOf", "(internal/reflectlite.Value).Elem", "(internal/reflectlite.Value).Set"], unfollowed := true, recurses := true, named := ["coffret/sum.nibble", "errors.errorType"], apart := false, laid := [("errors.errorType", laid_errors_errorType), ("coffret/sum.nibble", laid_coffret_sum_nibble)] }
def JournalBackSaid : Prop := journalBackRow.holds Tryd.pinned (OpenSpec.ofChange journalBackSpec)

/-- ITS FALSE NEIGHBOUR: 'it returns false'. Refute it at one input. -/
def journalBackWrong : ChangeSpec := { name := "journalBack", fn := fun _ => fun
  | [d1, d2, d3] => { results := [.lit (.bool false)], args := [d1, d2, d3] }
  | _ => none }
def JournalBackWrongFalsely : Prop := journalBackRow.holds Tryd.pinned (OpenSpec.ofChange journalBackWrong)

/-- 'coffretlaw15.JournalPower': WHATEVER THE INPUT: true; the input reads as it did. -/
def journalPowerSpec : ChangeSpec := { name := "journalPower", fn := fun _ => fun
  | [d1, d2, d3, d4, d5, d6, d7] => { results := [.lit (.bool true)], args := [d1, d2, d3, d4, d5, d6, d7] }
  | _ => none }
def journalPowerRow : OpenClaim := { program := "ytaaimonnpmfnlaadoor", sum := "6c130f8a57094e5cb91019642ce139f651877d74d737568d27397a9f5b7f79b5", func := "coffret/coffretlaw15.JournalPower", spec := "journalPower", inPlace := ["internal/reflectlite.ValueOf", "(internal/reflectlite.Value).Type", "(internal/reflectlite.Value).IsNil", "internal/reflectlite.TypeOf", "(internal/reflectlite.Value).Elem", "(internal/reflectlite.Value).Set"], unfollowed := true, recurses := true, named := ["coffret/sum.nibble", "errors.errorType"], apart := false, laid := [("errors.errorType", laid_errors_errorType), ("coffret/sum.nibble", laid_coffret_sum_nibble)] }
def JournalPowerSaid : Prop := journalPowerRow.holds Tryd.pinned (OpenSpec.ofChange journalPowerSpec)

/-- ITS FALSE NEIGHBOUR: 'it returns false'. Refute it at one input. -/
def journalPowerWrong : ChangeSpec := { name := "journalPower", fn := fun _ => fun
  | [d1, d2, d3, d4, d5, d6, d7] => { results := [.lit (.bool false)], args := [d1, d2, d3, d4, d5, d6, d7] }
  | _ => none }
def JournalPowerWrongFalsely : Prop := journalPowerRow.holds Tryd.pinned (OpenSpec.ofChange journalPowerWrong)

/- THE SECOND FORM. 'bulk': how many values and letters a reading holds, each counted each time it is reached (what is shared counts as often as it is met; a slice's spare places count too). A statement '..UptoSaid' is the law's where the arguments, and the package variables that the reading takes, are together of bulk at most 1048576: NARROWER than '..Said'. Prove '..Said' where nothing that the law and all that it calls make is longer than what came in: it says more and counts as full. Else prove '..UptoSaid'. A law counts once. -/
mutual
def uptoBulk {H : Type} : DataW H → Nat
  | .lit (.string bytes) => bytes.length + 1
  | .lit _ => 1
  | .nil => 1
  | .ptr d => uptoBulk d + 1
  | .slice elems spare => uptoBulkAll elems + uptoBulkAll spare + 1
  | .agg parts => uptoBulkAll parts + 1
  | .iface _ d => uptoBulk d + 1
  | .map entries => uptoBulkEntries entries + 1
  | .held _ => 1
def uptoBulkAll {H : Type} : List (DataW H) → Nat
  | [] => 0
  | d :: r => uptoBulk d + uptoBulkAll r
def uptoBulkEntries {H : Type} : List (Lit × DataW H) → Nat
  | [] => 0
  | x :: r => uptoBulkEntry x + uptoBulkEntries r
def uptoBulkEntry {H : Type} : Lit × DataW H → Nat
  | (.string bytes, d) => bytes.length + uptoBulk d + 1
  | (_, d) => uptoBulk d + 1
 end
def uptoSmall : (H : Type) → List (DataW H) → Bool := fun _ ds => decide (uptoBulkAll ds ≤ 1048576)
def OpenSpec.upto (s : _root_.Go.ChangeSpec) : _root_.Go.OpenSpec := { _root_.Go.OpenSpec.ofChange s with cond := some uptoSmall }

/-- 'coffretlaw15.JournalFrames', WHERE WHAT IT READS IS OF BULK AT MOST 1048576: true; the input reads as it did. -/
def journalFramesUptoRow : OpenClaim := { program := "ytaaimonnpmfnlaadoor", sum := "6c130f8a57094e5cb91019642ce139f651877d74d737568d27397a9f5b7f79b5", func := "coffret/coffretlaw15.JournalFrames", spec := "journalFrames", named := ["coffret/sum.nibble"], apart := false, laid := [("coffret/sum.nibble", laid_coffret_sum_nibble)], narrowed := true }
def JournalFramesUptoSaid : Prop := journalFramesUptoRow.holds Tryd.pinned (OpenSpec.upto journalFramesSpec)

/-- 'coffretlaw15.JournalScans', WHERE WHAT IT READS IS OF BULK AT MOST 1048576: true; the input reads as it did. -/
def journalScansUptoRow : OpenClaim := { program := "ytaaimonnpmfnlaadoor", sum := "6c130f8a57094e5cb91019642ce139f651877d74d737568d27397a9f5b7f79b5", func := "coffret/coffretlaw15.JournalScans", spec := "journalScans", named := ["coffret/sum.nibble"], apart := false, laid := [("coffret/sum.nibble", laid_coffret_sum_nibble)], narrowed := true }
def JournalScansUptoSaid : Prop := journalScansUptoRow.holds Tryd.pinned (OpenSpec.upto journalScansSpec)

/-- 'coffretlaw15.JournalTells', WHERE WHAT IT READS IS OF BULK AT MOST 1048576: true; the input reads as it did. -/
def journalTellsUptoRow : OpenClaim := { program := "ytaaimonnpmfnlaadoor", sum := "6c130f8a57094e5cb91019642ce139f651877d74d737568d27397a9f5b7f79b5", func := "coffret/coffretlaw15.JournalTells", spec := "journalTells", named := ["coffret/sum.nibble"], apart := false, laid := [("coffret/sum.nibble", laid_coffret_sum_nibble)], narrowed := true }
def JournalTellsUptoSaid : Prop := journalTellsUptoRow.holds Tryd.pinned (OpenSpec.upto journalTellsSpec)

/-- 'coffretlaw15.JournalGrows', WHERE WHAT IT READS IS OF BULK AT MOST 1048576: true; the input reads as it did. -/
def journalGrowsUptoRow : OpenClaim := { program := "ytaaimonnpmfnlaadoor", sum := "6c130f8a57094e5cb91019642ce139f651877d74d737568d27397a9f5b7f79b5", func := "coffret/coffretlaw15.JournalGrows", spec := "journalGrows", unfollowed := true, recurses := true, named := ["coffret/sum.nibble"], apart := false, laid := [("coffret/sum.nibble", laid_coffret_sum_nibble)], narrowed := true }
def JournalGrowsUptoSaid : Prop := journalGrowsUptoRow.holds Tryd.pinned (OpenSpec.upto journalGrowsSpec)

/-- 'coffretlaw15.JournalBack', WHERE WHAT IT READS IS OF BULK AT MOST 1048576: true; the input reads as it did. -/
def journalBackUptoRow : OpenClaim := { program := "ytaaimonnpmfnlaadoor", sum := "6c130f8a57094e5cb91019642ce139f651877d74d737568d27397a9f5b7f79b5", func := "coffret/coffretlaw15.JournalBack", spec := "journalBack", inPlace := ["internal/reflectlite.ValueOf", "(internal/reflectlite.Value).Type", "(internal/reflectlite.Value).IsNil", "internal/reflectlite.TypeOf", "(internal/reflectlite.Value).Elem", "(internal/reflectlite.Value).Set"], unfollowed := true, recurses := true, named := ["coffret/sum.nibble", "errors.errorType"], apart := false, laid := [("errors.errorType", laid_errors_errorType), ("coffret/sum.nibble", laid_coffret_sum_nibble)], narrowed := true }
def JournalBackUptoSaid : Prop := journalBackUptoRow.holds Tryd.pinned (OpenSpec.upto journalBackSpec)

/-- 'coffretlaw15.JournalPower', WHERE WHAT IT READS IS OF BULK AT MOST 1048576: true; the input reads as it did. -/
def journalPowerUptoRow : OpenClaim := { program := "ytaaimonnpmfnlaadoor", sum := "6c130f8a57094e5cb91019642ce139f651877d74d737568d27397a9f5b7f79b5", func := "coffret/coffretlaw15.JournalPower", spec := "journalPower", inPlace := ["internal/reflectlite.ValueOf", "(internal/reflectlite.Value).Type", "(internal/reflectlite.Value).IsNil", "internal/reflectlite.TypeOf", "(internal/reflectlite.Value).Elem", "(internal/reflectlite.Value).Set"], unfollowed := true, recurses := true, named := ["coffret/sum.nibble", "errors.errorType"], apart := false, laid := [("errors.errorType", laid_errors_errorType), ("coffret/sum.nibble", laid_coffret_sum_nibble)], narrowed := true }
def JournalPowerUptoSaid : Prop := journalPowerUptoRow.holds Tryd.pinned (OpenSpec.upto journalPowerSpec)

end Rows
end Go.Proofs.YtaaimonnpmfnlaaDoor
