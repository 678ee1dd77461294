/-
  NARROWER THAN 'FOR EVERY INPUT', by the rows' own cells (each row's printed sentence says how): SumAdds: laid · SumJoins: laid · SumNumbers: laid · SumParts: laid · SumTells: laid · SumBack: laid · SumAffine: laid.
  DERIVED. THE GIVEN ROWS OF THIS SEAT. 7 by the template 'for every input the law returns true; each argument reads behind the call as it read before'; 0 by the template 'total and deterministic' (their statements: YtmmbofgamipfiaaDoorTotals.lean).
  GIVEN WITH THE SEED: the statements are not yours to turn. If you find one false, say at which input.
  Laid BY PROGRAM, IN A SANDBOX (cutbox-rows.mjs): the forced cells as the released guide's own fill.sh prints them over the translation 7e855fe374c30253… (all of the seat's roots in one cut). By AI agents, Wed Nov 11 2026. No macro, syntax, notation, axiom, sorry.
-/
import Derived.Test.YtmmbofgamipfiaaDoorChecked
import GoSem.Claim
import GoSem.ClaimJoined
import GoSem.ClaimMapViews
import Derived.JoinedTies
import Derived.KernelRfl
namespace Go.Proofs.YtmmbofgamipfiaaDoor
/- THE CELL 'sum', in the pinned program and in every row, IS THE sha256 OF THE DUMP (.gsa) THAT YtmmbofgamipfiaaDoorProg.lean LOADS. Nothing in Lean hashes anything: it is a label: what it is worth is what the hold of that sum in a sandbox is worth. -/
noncomputable def Tryd.pinned : Pinned := { name := "ytmmbofgamipfiaadoor", sum := "7e855fe374c3025360763c940df72ec1d6cdc451fbc97419a6e37e653e0a8a9a", checked := Tryd.checked }
namespace Rows
def none {H : Type} : Left H := { results := [], args := [] }

/- WHAT THE LISTED PACKAGE-LEVEL VARIABLES READ AS WHEN THE CALL BEGINS. Each datum BY PROGRAM (the guide's laid-datum.mjs) off the statement by which the dump's own 'gosem.cut.vars' lays the variable. In a bare row this is a premise. The card (YtmmbofgamipfiaaDoorCards.lean) ties it to the program's text. -/
def laid_coffret_sum_nibble {H : Type} : DataW H := .agg [.lit (.int .u32 0), .lit (.int .u32 498536548), .lit (.int .u32 997073096), .lit (.int .u32 651767980), .lit (.int .u32 1994146192), .lit (.int .u32 1802195444), .lit (.int .u32 1303535960), .lit (.int .u32 1342533948), .lit (.int .u32 3988292384), .lit (.int .u32 4027552580), .lit (.int .u32 3604390888), .lit (.int .u32 3412177804), .lit (.int .u32 2607071920), .lit (.int .u32 2262029012), .lit (.int .u32 2685067896), .lit (.int .u32 3183342108)]

/-- 'coffretlaw11.SumAdds': WHATEVER THE INPUT: true; the input reads as it did. -/
def sumAddsSpec : ChangeSpec := { name := "sumAdds", fn := fun _ => fun
  | [d1, d2] => { results := [.lit (.bool true)], args := [d1, d2] }
  | _ => none }
def sumAddsRow : OpenClaim := { program := "ytmmbofgamipfiaadoor", sum := "7e855fe374c3025360763c940df72ec1d6cdc451fbc97419a6e37e653e0a8a9a", func := "coffret/coffretlaw11.SumAdds", spec := "sumAdds", named := ["coffret/sum.nibble"], apart := false, laid := [("coffret/sum.nibble", laid_coffret_sum_nibble)] }
def SumAddsSaid : Prop := sumAddsRow.holds Tryd.pinned (OpenSpec.ofChange sumAddsSpec)

/-- ITS FALSE NEIGHBOUR: 'it returns false'. Refute it at one input. -/
def sumAddsWrong : ChangeSpec := { name := "sumAdds", fn := fun _ => fun
  | [d1, d2] => { results := [.lit (.bool false)], args := [d1, d2] }
  | _ => none }
def SumAddsWrongFalsely : Prop := sumAddsRow.holds Tryd.pinned (OpenSpec.ofChange sumAddsWrong)

/-- 'coffretlaw11.SumJoins': WHATEVER THE INPUT: true; the input reads as it did. -/
def sumJoinsSpec : ChangeSpec := { name := "sumJoins", fn := fun _ => fun
  | [d1, d2, d3] => { results := [.lit (.bool true)], args := [d1, d2, d3] }
  | _ => none }
def sumJoinsRow : OpenClaim := { program := "ytmmbofgamipfiaadoor", sum := "7e855fe374c3025360763c940df72ec1d6cdc451fbc97419a6e37e653e0a8a9a", func := "coffret/coffretlaw11.SumJoins", spec := "sumJoins", named := ["coffret/sum.nibble"], apart := false, laid := [("coffret/sum.nibble", laid_coffret_sum_nibble)] }
def SumJoinsSaid : Prop := sumJoinsRow.holds Tryd.pinned (OpenSpec.ofChange sumJoinsSpec)

/-- ITS FALSE NEIGHBOUR: 'it returns false'. Refute it at one input. -/
def sumJoinsWrong : ChangeSpec := { name := "sumJoins", fn := fun _ => fun
  | [d1, d2, d3] => { results := [.lit (.bool false)], args := [d1, d2, d3] }
  | _ => none }
def SumJoinsWrongFalsely : Prop := sumJoinsRow.holds Tryd.pinned (OpenSpec.ofChange sumJoinsWrong)

/-- 'coffretlaw11.SumNumbers': WHATEVER THE INPUT: true; the input reads as it did. -/
def sumNumbersSpec : ChangeSpec := { name := "sumNumbers", fn := fun _ => fun
  | [d1, d2, d3, d4] => { results := [.lit (.bool true)], args := [d1, d2, d3, d4] }
  | _ => none }
def sumNumbersRow : OpenClaim := { program := "ytmmbofgamipfiaadoor", sum := "7e855fe374c3025360763c940df72ec1d6cdc451fbc97419a6e37e653e0a8a9a", func := "coffret/coffretlaw11.SumNumbers", spec := "sumNumbers", named := ["coffret/sum.nibble"], apart := false, laid := [("coffret/sum.nibble", laid_coffret_sum_nibble)] }
def SumNumbersSaid : Prop := sumNumbersRow.holds Tryd.pinned (OpenSpec.ofChange sumNumbersSpec)

/-- ITS FALSE NEIGHBOUR: 'it returns false'. Refute it at one input. -/
def sumNumbersWrong : ChangeSpec := { name := "sumNumbers", fn := fun _ => fun
  | [d1, d2, d3, d4] => { results := [.lit (.bool false)], args := [d1, d2, d3, d4] }
  | _ => none }
def SumNumbersWrongFalsely : Prop := sumNumbersRow.holds Tryd.pinned (OpenSpec.ofChange sumNumbersWrong)

/-- 'coffretlaw11.SumParts': WHATEVER THE INPUT: true; the input reads as it did. -/
def sumPartsSpec : ChangeSpec := { name := "sumParts", fn := fun _ => fun
  | [d1, d2, d3] => { results := [.lit (.bool true)], args := [d1, d2, d3] }
  | _ => none }
def sumPartsRow : OpenClaim := { program := "ytmmbofgamipfiaadoor", sum := "7e855fe374c3025360763c940df72ec1d6cdc451fbc97419a6e37e653e0a8a9a", func := "coffret/coffretlaw11.SumParts", spec := "sumParts", named := ["coffret/sum.nibble"], apart := false, laid := [("coffret/sum.nibble", laid_coffret_sum_nibble)] }
def SumPartsSaid : Prop := sumPartsRow.holds Tryd.pinned (OpenSpec.ofChange sumPartsSpec)

/-- ITS FALSE NEIGHBOUR: 'it returns false'. Refute it at one input. -/
def sumPartsWrong : ChangeSpec := { name := "sumParts", fn := fun _ => fun
  | [d1, d2, d3] => { results := [.lit (.bool false)], args := [d1, d2, d3] }
  | _ => none }
def SumPartsWrongFalsely : Prop := sumPartsRow.holds Tryd.pinned (OpenSpec.ofChange sumPartsWrong)

/-- 'coffretlaw11.SumTells': WHATEVER THE INPUT: true; the input reads as it did. -/
def sumTellsSpec : ChangeSpec := { name := "sumTells", fn := fun _ => fun
  | [d1, d2, d3] => { results := [.lit (.bool true)], args := [d1, d2, d3] }
  | _ => none }
def sumTellsRow : OpenClaim := { program := "ytmmbofgamipfiaadoor", sum := "7e855fe374c3025360763c940df72ec1d6cdc451fbc97419a6e37e653e0a8a9a", func := "coffret/coffretlaw11.SumTells", spec := "sumTells", named := ["coffret/sum.nibble"], apart := false, laid := [("coffret/sum.nibble", laid_coffret_sum_nibble)] }
def SumTellsSaid : Prop := sumTellsRow.holds Tryd.pinned (OpenSpec.ofChange sumTellsSpec)

/-- ITS FALSE NEIGHBOUR: 'it returns false'. Refute it at one input. -/
def sumTellsWrong : ChangeSpec := { name := "sumTells", fn := fun _ => fun
  | [d1, d2, d3] => { results := [.lit (.bool false)], args := [d1, d2, d3] }
  | _ => none }
def SumTellsWrongFalsely : Prop := sumTellsRow.holds Tryd.pinned (OpenSpec.ofChange sumTellsWrong)

/-- 'coffretlaw11.SumBack': WHATEVER THE INPUT: true; the input reads as it did. -/
def sumBackSpec : ChangeSpec := { name := "sumBack", fn := fun _ => fun
  | [d1, d2, d3, d4] => { results := [.lit (.bool true)], args := [d1, d2, d3, d4] }
  | _ => none }
def sumBackRow : OpenClaim := { program := "ytmmbofgamipfiaadoor", sum := "7e855fe374c3025360763c940df72ec1d6cdc451fbc97419a6e37e653e0a8a9a", func := "coffret/coffretlaw11.SumBack", spec := "sumBack", named := ["coffret/sum.nibble"], apart := false, laid := [("coffret/sum.nibble", laid_coffret_sum_nibble)] }
def SumBackSaid : Prop := sumBackRow.holds Tryd.pinned (OpenSpec.ofChange sumBackSpec)

/-- ITS FALSE NEIGHBOUR: 'it returns false'. Refute it at one input. -/
def sumBackWrong : ChangeSpec := { name := "sumBack", fn := fun _ => fun
  | [d1, d2, d3, d4] => { results := [.lit (.bool false)], args := [d1, d2, d3, d4] }
  | _ => none }
def SumBackWrongFalsely : Prop := sumBackRow.holds Tryd.pinned (OpenSpec.ofChange sumBackWrong)

/-- 'coffretlaw11.SumAffine': WHATEVER THE INPUT: true; the input reads as it did. -/
def sumAffineSpec : ChangeSpec := { name := "sumAffine", fn := fun _ => fun
  | [d1, d2, d3] => { results := [.lit (.bool true)], args := [d1, d2, d3] }
  | _ => none }
def sumAffineRow : OpenClaim := { program := "ytmmbofgamipfiaadoor", sum := "7e855fe374c3025360763c940df72ec1d6cdc451fbc97419a6e37e653e0a8a9a", func := "coffret/coffretlaw11.SumAffine", spec := "sumAffine", named := ["coffret/sum.nibble"], apart := false, laid := [("coffret/sum.nibble", laid_coffret_sum_nibble)] }
def SumAffineSaid : Prop := sumAffineRow.holds Tryd.pinned (OpenSpec.ofChange sumAffineSpec)

/-- ITS FALSE NEIGHBOUR: 'it returns false'. Refute it at one input. -/
def sumAffineWrong : ChangeSpec := { name := "sumAffine", fn := fun _ => fun
  | [d1, d2, d3] => { results := [.lit (.bool false)], args := [d1, d2, d3] }
  | _ => none }
def SumAffineWrongFalsely : Prop := sumAffineRow.holds Tryd.pinned (OpenSpec.ofChange sumAffineWrong)

/- THE SECOND FORM. 'bulk': how many values and letters a reading holds, each counted each time it is reached (what is shared counts as often as it is met; a slice's spare places count too). A statement '..UptoSaid' is the law's where the arguments, and the package variables that the reading takes, are together of bulk at most 1048576: NARROWER than '..Said'. Prove '..Said' where nothing that the law and all that it calls make is longer than what came in: it says more and counts as full. Else prove '..UptoSaid'. A law counts once. -/
mutual
def uptoBulk {H : Type} : DataW H → Nat
  | .lit (.string bytes) => bytes.length + 1
  | .lit _ => 1
  | .nil => 1
  | .ptr d => uptoBulk d + 1
  | .slice elems spare => uptoBulkAll elems + uptoBulkAll spare + 1
  | .agg parts => uptoBulkAll parts + 1
  | .iface _ d => uptoBulk d + 1
  | .map entries => uptoBulkEntries entries + 1
  | .held _ => 1
def uptoBulkAll {H : Type} : List (DataW H) → Nat
  | [] => 0
  | d :: r => uptoBulk d + uptoBulkAll r
def uptoBulkEntries {H : Type} : List (Lit × DataW H) → Nat
  | [] => 0
  | x :: r => uptoBulkEntry x + uptoBulkEntries r
def uptoBulkEntry {H : Type} : Lit × DataW H → Nat
  | (.string bytes, d) => bytes.length + uptoBulk d + 1
  | (_, d) => uptoBulk d + 1
 end
def uptoSmall : (H : Type) → List (DataW H) → Bool := fun _ ds => decide (uptoBulkAll ds ≤ 1048576)
def OpenSpec.upto (s : _root_.Go.ChangeSpec) : _root_.Go.OpenSpec := { _root_.Go.OpenSpec.ofChange s with cond := some uptoSmall }

/-- 'coffretlaw11.SumAdds', WHERE WHAT IT READS IS OF BULK AT MOST 1048576: true; the input reads as it did. -/
def sumAddsUptoRow : OpenClaim := { program := "ytmmbofgamipfiaadoor", sum := "7e855fe374c3025360763c940df72ec1d6cdc451fbc97419a6e37e653e0a8a9a", func := "coffret/coffretlaw11.SumAdds", spec := "sumAdds", named := ["coffret/sum.nibble"], apart := false, laid := [("coffret/sum.nibble", laid_coffret_sum_nibble)], narrowed := true }
def SumAddsUptoSaid : Prop := sumAddsUptoRow.holds Tryd.pinned (OpenSpec.upto sumAddsSpec)

/-- 'coffretlaw11.SumJoins', WHERE WHAT IT READS IS OF BULK AT MOST 1048576: true; the input reads as it did. -/
def sumJoinsUptoRow : OpenClaim := { program := "ytmmbofgamipfiaadoor", sum := "7e855fe374c3025360763c940df72ec1d6cdc451fbc97419a6e37e653e0a8a9a", func := "coffret/coffretlaw11.SumJoins", spec := "sumJoins", named := ["coffret/sum.nibble"], apart := false, laid := [("coffret/sum.nibble", laid_coffret_sum_nibble)], narrowed := true }
def SumJoinsUptoSaid : Prop := sumJoinsUptoRow.holds Tryd.pinned (OpenSpec.upto sumJoinsSpec)

/-- 'coffretlaw11.SumNumbers', WHERE WHAT IT READS IS OF BULK AT MOST 1048576: true; the input reads as it did. -/
def sumNumbersUptoRow : OpenClaim := { program := "ytmmbofgamipfiaadoor", sum := "7e855fe374c3025360763c940df72ec1d6cdc451fbc97419a6e37e653e0a8a9a", func := "coffret/coffretlaw11.SumNumbers", spec := "sumNumbers", named := ["coffret/sum.nibble"], apart := false, laid := [("coffret/sum.nibble", laid_coffret_sum_nibble)], narrowed := true }
def SumNumbersUptoSaid : Prop := sumNumbersUptoRow.holds Tryd.pinned (OpenSpec.upto sumNumbersSpec)

/-- 'coffretlaw11.SumParts', WHERE WHAT IT READS IS OF BULK AT MOST 1048576: true; the input reads as it did. -/
def sumPartsUptoRow : OpenClaim := { program := "ytmmbofgamipfiaadoor", sum := "7e855fe374c3025360763c940df72ec1d6cdc451fbc97419a6e37e653e0a8a9a", func := "coffret/coffretlaw11.SumParts", spec := "sumParts", named := ["coffret/sum.nibble"], apart := false, laid := [("coffret/sum.nibble", laid_coffret_sum_nibble)], narrowed := true }
def SumPartsUptoSaid : Prop := sumPartsUptoRow.holds Tryd.pinned (OpenSpec.upto sumPartsSpec)

/-- 'coffretlaw11.SumTells', WHERE WHAT IT READS IS OF BULK AT MOST 1048576: true; the input reads as it did. -/
def sumTellsUptoRow : OpenClaim := { program := "ytmmbofgamipfiaadoor", sum := "7e855fe374c3025360763c940df72ec1d6cdc451fbc97419a6e37e653e0a8a9a", func := "coffret/coffretlaw11.SumTells", spec := "sumTells", named := ["coffret/sum.nibble"], apart := false, laid := [("coffret/sum.nibble", laid_coffret_sum_nibble)], narrowed := true }
def SumTellsUptoSaid : Prop := sumTellsUptoRow.holds Tryd.pinned (OpenSpec.upto sumTellsSpec)

/-- 'coffretlaw11.SumBack', WHERE WHAT IT READS IS OF BULK AT MOST 1048576: true; the input reads as it did. -/
def sumBackUptoRow : OpenClaim := { program := "ytmmbofgamipfiaadoor", sum := "7e855fe374c3025360763c940df72ec1d6cdc451fbc97419a6e37e653e0a8a9a", func := "coffret/coffretlaw11.SumBack", spec := "sumBack", named := ["coffret/sum.nibble"], apart := false, laid := [("coffret/sum.nibble", laid_coffret_sum_nibble)], narrowed := true }
def SumBackUptoSaid : Prop := sumBackUptoRow.holds Tryd.pinned (OpenSpec.upto sumBackSpec)

/-- 'coffretlaw11.SumAffine', WHERE WHAT IT READS IS OF BULK AT MOST 1048576: true; the input reads as it did. -/
def sumAffineUptoRow : OpenClaim := { program := "ytmmbofgamipfiaadoor", sum := "7e855fe374c3025360763c940df72ec1d6cdc451fbc97419a6e37e653e0a8a9a", func := "coffret/coffretlaw11.SumAffine", spec := "sumAffine", named := ["coffret/sum.nibble"], apart := false, laid := [("coffret/sum.nibble", laid_coffret_sum_nibble)], narrowed := true }
def SumAffineUptoSaid : Prop := sumAffineUptoRow.holds Tryd.pinned (OpenSpec.upto sumAffineSpec)

end Rows
end Go.Proofs.YtmmbofgamipfiaaDoor
