/-
  NARROWER THAN 'FOR EVERY INPUT', by the rows' own cells (each row's printed sentence says how): SuperPlays: laid · SuperMakes: laid · SuperChooses: laid · SuperBack: laid · SuperTurns: laid · SuperPower: laid.
  DERIVED. THE GIVEN ROWS OF THIS SEAT. 6 by the template 'for every input the law returns true; each argument reads behind the call as it read before'; 0 by the template 'total and deterministic' (their statements: YteljopjaolegaaaDoorTotals.lean).
  GIVEN WITH THE SEED: the statements are not yours to turn. If you find one false, say at which input.
  Laid BY PROGRAM, IN A SANDBOX (cutbox-rows.mjs): the forced cells as the released guide's own fill.sh prints them over the translation c4e0da18a7d0858e… (all of the seat's roots in one cut). By AI agents, Wed Nov 11 2026. No macro, syntax, notation, axiom, sorry.
-/
import Derived.Test.YteljopjaolegaaaDoorChecked
import GoSem.Claim
import GoSem.ClaimJoined
import GoSem.ClaimMapViews
import Derived.JoinedTies
import Derived.KernelRfl
namespace Go.Proofs.YteljopjaolegaaaDoor
/- THE CELL 'sum', in the pinned program and in every row, IS THE sha256 OF THE DUMP (.gsa) THAT YteljopjaolegaaaDoorProg.lean LOADS. Nothing in Lean hashes anything: it is a label: what it is worth is what the hold of that sum in a sandbox is worth. -/
noncomputable def Tryd.pinned : Pinned := { name := "yteljopjaolegaaadoor", sum := "c4e0da18a7d0858e469d54e0d9d99a54abd4b7514fdc53d5d46d17a069115848", checked := Tryd.checked }
namespace Rows
def none {H : Type} : Left H := { results := [], args := [] }

/- WHAT THE LISTED PACKAGE-LEVEL VARIABLES READ AS WHEN THE CALL BEGINS. Each datum BY PROGRAM (the guide's laid-datum.mjs) off the statement by which the dump's own 'gosem.cut.vars' lays the variable. In a bare row this is a premise. The card (YteljopjaolegaaaDoorCards.lean) ties it to the program's text. -/
def laid_errors_errorType {H : Type} : DataW H := .iface "internal/reflectlite.rtype" (.agg [.ptr (.lit (.string [101, 114, 114, 111, 114]))])
def laid_coffret_sum_nibble {H : Type} : DataW H := .agg [.lit (.int .u32 0), .lit (.int .u32 498536548), .lit (.int .u32 997073096), .lit (.int .u32 651767980), .lit (.int .u32 1994146192), .lit (.int .u32 1802195444), .lit (.int .u32 1303535960), .lit (.int .u32 1342533948), .lit (.int .u32 3988292384), .lit (.int .u32 4027552580), .lit (.int .u32 3604390888), .lit (.int .u32 3412177804), .lit (.int .u32 2607071920), .lit (.int .u32 2262029012), .lit (.int .u32 2685067896), .lit (.int .u32 3183342108)]

/-- 'coffretlaw14.SuperPlays': WHATEVER THE INPUT: true; the input reads as it did. -/
def superPlaysSpec : ChangeSpec := { name := "superPlays", fn := fun _ => fun
  | [d1, d2] => { results := [.lit (.bool true)], args := [d1, d2] }
  | _ => none }
def superPlaysRow : OpenClaim := { program := "yteljopjaolegaaadoor", sum := "c4e0da18a7d0858e469d54e0d9d99a54abd4b7514fdc53d5d46d17a069115848", func := "coffret/coffretlaw14.SuperPlays", spec := "superPlays", inPlace := ["internal/reflectlite.ValueOf", "(internal/reflectlite.Value).Type", "(internal/reflectlite.Value).IsNil", "internal/reflectlite.TypeOf", "(internal/reflectlite.Value).Elem", "(internal/reflectlite.Value).Set"], unfollowed := true, recurses := true, named := ["coffret/sum.nibble", "errors.errorType"], apart := false, laid := [("errors.errorType", laid_errors_errorType), ("coffret/sum.nibble", laid_coffret_sum_nibble)] }
def SuperPlaysSaid : Prop := superPlaysRow.holds Tryd.pinned (OpenSpec.ofChange superPlaysSpec)

/-- ITS FALSE NEIGHBOUR: 'it returns false'. Refute it at one input. -/
def superPlaysWrong : ChangeSpec := { name := "superPlays", fn := fun _ => fun
  | [d1, d2] => { results := [.lit (.bool false)], args := [d1, d2] }
  | _ => none }
def SuperPlaysWrongFalsely : Prop := superPlaysRow.holds Tryd.pinned (OpenSpec.ofChange superPlaysWrong)

/-- 'coffretlaw14.SuperMakes': WHATEVER THE INPUT: true; the input reads as it did. -/
def superMakesSpec : ChangeSpec := { name := "superMakes", fn := fun _ => fun
  | [d1, d2, d3] => { results := [.lit (.bool true)], args := [d1, d2, d3] }
  | _ => none }
def superMakesRow : OpenClaim := { program := "yteljopjaolegaaadoor", sum := "c4e0da18a7d0858e469d54e0d9d99a54abd4b7514fdc53d5d46d17a069115848", func := "coffret/coffretlaw14.SuperMakes", spec := "superMakes", named := ["coffret/sum.nibble"], apart := false, laid := [("coffret/sum.nibble", laid_coffret_sum_nibble)] }
def SuperMakesSaid : Prop := superMakesRow.holds Tryd.pinned (OpenSpec.ofChange superMakesSpec)

/-- ITS FALSE NEIGHBOUR: 'it returns false'. Refute it at one input. -/
def superMakesWrong : ChangeSpec := { name := "superMakes", fn := fun _ => fun
  | [d1, d2, d3] => { results := [.lit (.bool false)], args := [d1, d2, d3] }
  | _ => none }
def SuperMakesWrongFalsely : Prop := superMakesRow.holds Tryd.pinned (OpenSpec.ofChange superMakesWrong)

/-- 'coffretlaw14.SuperChooses': WHATEVER THE INPUT: true; the input reads as it did. -/
def superChoosesSpec : ChangeSpec := { name := "superChooses", fn := fun _ => fun
  | [d1, d2] => { results := [.lit (.bool true)], args := [d1, d2] }
  | _ => none }
def superChoosesRow : OpenClaim := { program := "yteljopjaolegaaadoor", sum := "c4e0da18a7d0858e469d54e0d9d99a54abd4b7514fdc53d5d46d17a069115848", func := "coffret/coffretlaw14.SuperChooses", spec := "superChooses", named := ["coffret/sum.nibble"], apart := false, laid := [("coffret/sum.nibble", laid_coffret_sum_nibble)] }
def SuperChoosesSaid : Prop := superChoosesRow.holds Tryd.pinned (OpenSpec.ofChange superChoosesSpec)

/-- ITS FALSE NEIGHBOUR: 'it returns false'. Refute it at one input. -/
def superChoosesWrong : ChangeSpec := { name := "superChooses", fn := fun _ => fun
  | [d1, d2] => { results := [.lit (.bool false)], args := [d1, d2] }
  | _ => none }
def SuperChoosesWrongFalsely : Prop := superChoosesRow.holds Tryd.pinned (OpenSpec.ofChange superChoosesWrong)

/-- 'coffretlaw14.SuperBack': WHATEVER THE INPUT: true; the input reads as it did. -/
def superBackSpec : ChangeSpec := { name := "superBack", fn := fun _ => fun
  | [d1, d2] => { results := [.lit (.bool true)], args := [d1, d2] }
  | _ => none }
def superBackRow : OpenClaim := { program := "yteljopjaolegaaadoor", sum := "c4e0da18a7d0858e469d54e0d9d99a54abd4b7514fdc53d5d46d17a069115848", func := "coffret/coffretlaw14.SuperBack", spec := "superBack", named := ["coffret/sum.nibble"], apart := false, laid := [("coffret/sum.nibble", laid_coffret_sum_nibble)] }
def SuperBackSaid : Prop := superBackRow.holds Tryd.pinned (OpenSpec.ofChange superBackSpec)

/-- ITS FALSE NEIGHBOUR: 'it returns false'. Refute it at one input. -/
def superBackWrong : ChangeSpec := { name := "superBack", fn := fun _ => fun
  | [d1, d2] => { results := [.lit (.bool false)], args := [d1, d2] }
  | _ => none }
def SuperBackWrongFalsely : Prop := superBackRow.holds Tryd.pinned (OpenSpec.ofChange superBackWrong)

/-- 'coffretlaw14.SuperTurns': WHATEVER THE INPUT: true; the input reads as it did. -/
def superTurnsSpec : ChangeSpec := { name := "superTurns", fn := fun _ => fun
  | [d1, d2] => { results := [.lit (.bool true)], args := [d1, d2] }
  | _ => none }
def superTurnsRow : OpenClaim := { program := "yteljopjaolegaaadoor", sum := "c4e0da18a7d0858e469d54e0d9d99a54abd4b7514fdc53d5d46d17a069115848", func := "coffret/coffretlaw14.SuperTurns", spec := "superTurns", unfollowed := true, recurses := true, named := ["coffret/sum.nibble"], apart := false, laid := [("coffret/sum.nibble", laid_coffret_sum_nibble)] }
def SuperTurnsSaid : Prop := superTurnsRow.holds Tryd.pinned (OpenSpec.ofChange superTurnsSpec)

/-- ITS FALSE NEIGHBOUR: 'it returns false'. Refute it at one input. -/
def superTurnsWrong : ChangeSpec := { name := "superTurns", fn := fun _ => fun
  | [d1, d2] => { results := [.lit (.bool false)], args := [d1, d2] }
  | _ => none }
def SuperTurnsWrongFalsely : Prop := superTurnsRow.holds Tryd.pinned (OpenSpec.ofChange superTurnsWrong)

/-- 'coffretlaw14.SuperPower': WHATEVER THE INPUT: true; the input reads as it did. -/
def superPowerSpec : ChangeSpec := { name := "superPower", fn := fun _ => fun
  | [d1, d2, d3, d4, d5, d6] => { results := [.lit (.bool true)], args := [d1, d2, d3, d4, d5, d6] }
  | _ => none }
def superPowerRow : OpenClaim := { program := "yteljopjaolegaaadoor", sum := "c4e0da18a7d0858e469d54e0d9d99a54abd4b7514fdc53d5d46d17a069115848", func := "coffret/coffretlaw14.SuperPower", spec := "superPower", unfollowed := true, recurses := true, named := ["coffret/sum.nibble"], apart := false, laid := [("coffret/sum.nibble", laid_coffret_sum_nibble)] }
def SuperPowerSaid : Prop := superPowerRow.holds Tryd.pinned (OpenSpec.ofChange superPowerSpec)

/-- ITS FALSE NEIGHBOUR: 'it returns false'. Refute it at one input. -/
def superPowerWrong : ChangeSpec := { name := "superPower", fn := fun _ => fun
  | [d1, d2, d3, d4, d5, d6] => { results := [.lit (.bool false)], args := [d1, d2, d3, d4, d5, d6] }
  | _ => none }
def SuperPowerWrongFalsely : Prop := superPowerRow.holds Tryd.pinned (OpenSpec.ofChange superPowerWrong)

/- THE SECOND FORM. 'bulk': how many values and letters a reading holds, each counted each time it is reached (what is shared counts as often as it is met; a slice's spare places count too). A statement '..UptoSaid' is the law's where the arguments, and the package variables that the reading takes, are together of bulk at most 1048576: NARROWER than '..Said'. Prove '..Said' where nothing that the law and all that it calls make is longer than what came in: it says more and counts as full. Else prove '..UptoSaid'. A law counts once. -/
mutual
def uptoBulk {H : Type} : DataW H → Nat
  | .lit (.string bytes) => bytes.length + 1
  | .lit _ => 1
  | .nil => 1
  | .ptr d => uptoBulk d + 1
  | .slice elems spare => uptoBulkAll elems + uptoBulkAll spare + 1
  | .agg parts => uptoBulkAll parts + 1
  | .iface _ d => uptoBulk d + 1
  | .map entries => uptoBulkEntries entries + 1
  | .held _ => 1
def uptoBulkAll {H : Type} : List (DataW H) → Nat
  | [] => 0
  | d :: r => uptoBulk d + uptoBulkAll r
def uptoBulkEntries {H : Type} : List (Lit × DataW H) → Nat
  | [] => 0
  | x :: r => uptoBulkEntry x + uptoBulkEntries r
def uptoBulkEntry {H : Type} : Lit × DataW H → Nat
  | (.string bytes, d) => bytes.length + uptoBulk d + 1
  | (_, d) => uptoBulk d + 1
 end
def uptoSmall : (H : Type) → List (DataW H) → Bool := fun _ ds => decide (uptoBulkAll ds ≤ 1048576)
def OpenSpec.upto (s : _root_.Go.ChangeSpec) : _root_.Go.OpenSpec := { _root_.Go.OpenSpec.ofChange s with cond := some uptoSmall }

/-- 'coffretlaw14.SuperPlays', WHERE WHAT IT READS IS OF BULK AT MOST 1048576: true; the input reads as it did. -/
def superPlaysUptoRow : OpenClaim := { program := "yteljopjaolegaaadoor", sum := "c4e0da18a7d0858e469d54e0d9d99a54abd4b7514fdc53d5d46d17a069115848", func := "coffret/coffretlaw14.SuperPlays", spec := "superPlays", inPlace := ["internal/reflectlite.ValueOf", "(internal/reflectlite.Value).Type", "(internal/reflectlite.Value).IsNil", "internal/reflectlite.TypeOf", "(internal/reflectlite.Value).Elem", "(internal/reflectlite.Value).Set"], unfollowed := true, recurses := true, named := ["coffret/sum.nibble", "errors.errorType"], apart := false, laid := [("errors.errorType", laid_errors_errorType), ("coffret/sum.nibble", laid_coffret_sum_nibble)], narrowed := true }
def SuperPlaysUptoSaid : Prop := superPlaysUptoRow.holds Tryd.pinned (OpenSpec.upto superPlaysSpec)

/-- 'coffretlaw14.SuperMakes', WHERE WHAT IT READS IS OF BULK AT MOST 1048576: true; the input reads as it did. -/
def superMakesUptoRow : OpenClaim := { program := "yteljopjaolegaaadoor", sum := "c4e0da18a7d0858e469d54e0d9d99a54abd4b7514fdc53d5d46d17a069115848", func := "coffret/coffretlaw14.SuperMakes", spec := "superMakes", named := ["coffret/sum.nibble"], apart := false, laid := [("coffret/sum.nibble", laid_coffret_sum_nibble)], narrowed := true }
def SuperMakesUptoSaid : Prop := superMakesUptoRow.holds Tryd.pinned (OpenSpec.upto superMakesSpec)

/-- 'coffretlaw14.SuperChooses', WHERE WHAT IT READS IS OF BULK AT MOST 1048576: true; the input reads as it did. -/
def superChoosesUptoRow : OpenClaim := { program := "yteljopjaolegaaadoor", sum := "c4e0da18a7d0858e469d54e0d9d99a54abd4b7514fdc53d5d46d17a069115848", func := "coffret/coffretlaw14.SuperChooses", spec := "superChooses", named := ["coffret/sum.nibble"], apart := false, laid := [("coffret/sum.nibble", laid_coffret_sum_nibble)], narrowed := true }
def SuperChoosesUptoSaid : Prop := superChoosesUptoRow.holds Tryd.pinned (OpenSpec.upto superChoosesSpec)

/-- 'coffretlaw14.SuperBack', WHERE WHAT IT READS IS OF BULK AT MOST 1048576: true; the input reads as it did. -/
def superBackUptoRow : OpenClaim := { program := "yteljopjaolegaaadoor", sum := "c4e0da18a7d0858e469d54e0d9d99a54abd4b7514fdc53d5d46d17a069115848", func := "coffret/coffretlaw14.SuperBack", spec := "superBack", named := ["coffret/sum.nibble"], apart := false, laid := [("coffret/sum.nibble", laid_coffret_sum_nibble)], narrowed := true }
def SuperBackUptoSaid : Prop := superBackUptoRow.holds Tryd.pinned (OpenSpec.upto superBackSpec)

/-- 'coffretlaw14.SuperTurns', WHERE WHAT IT READS IS OF BULK AT MOST 1048576: true; the input reads as it did. -/
def superTurnsUptoRow : OpenClaim := { program := "yteljopjaolegaaadoor", sum := "c4e0da18a7d0858e469d54e0d9d99a54abd4b7514fdc53d5d46d17a069115848", func := "coffret/coffretlaw14.SuperTurns", spec := "superTurns", unfollowed := true, recurses := true, named := ["coffret/sum.nibble"], apart := false, laid := [("coffret/sum.nibble", laid_coffret_sum_nibble)], narrowed := true }
def SuperTurnsUptoSaid : Prop := superTurnsUptoRow.holds Tryd.pinned (OpenSpec.upto superTurnsSpec)

/-- 'coffretlaw14.SuperPower', WHERE WHAT IT READS IS OF BULK AT MOST 1048576: true; the input reads as it did. -/
def superPowerUptoRow : OpenClaim := { program := "yteljopjaolegaaadoor", sum := "c4e0da18a7d0858e469d54e0d9d99a54abd4b7514fdc53d5d46d17a069115848", func := "coffret/coffretlaw14.SuperPower", spec := "superPower", unfollowed := true, recurses := true, named := ["coffret/sum.nibble"], apart := false, laid := [("coffret/sum.nibble", laid_coffret_sum_nibble)], narrowed := true }
def SuperPowerUptoSaid : Prop := superPowerUptoRow.holds Tryd.pinned (OpenSpec.upto superPowerSpec)

end Rows
end Go.Proofs.YteljopjaolegaaaDoor
