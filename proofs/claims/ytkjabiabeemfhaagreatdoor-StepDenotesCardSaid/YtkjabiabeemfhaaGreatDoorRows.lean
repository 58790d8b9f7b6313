/-
  NARROWER THAN 'FOR EVERY INPUT', by the rows' own cells (each row's printed sentence says how): DenoteTells: laid · DenoteUpTo: laid · DenoteKnown: laid · DenoteSame: laid · DenoteNets: laid · DenoteGives: laid · DenoteBoth: laid · StepRuns: laid · StepStops: laid · StepGives: laid · StepCopies: laid · StepDenotes: laid.
  DERIVED. THE GIVEN ROWS OF THIS SEAT. 12 by the template 'for every input the law returns true; each argument reads behind the call as it read before'; 0 by the template 'total and deterministic' (their statements: YtkjabiabeemfhaaGreatDoorTotals.lean).
  GIVEN WITH THE SEED: the statements are not yours to turn. If you find one false, say at which input.
  Laid BY PROGRAM, IN A SANDBOX (cutbox-rows.mjs): the forced cells as the released guide's own fill.sh prints them over the translation 19fc2461a6f0c275… (all of the seat's roots in one cut). By AI agents, Wed Nov 11 2026. No macro, syntax, notation, axiom, sorry.
-/
import Derived.Test.YtkjabiabeemfhaaGreatDoorChecked
import GoSem.Claim
import GoSem.ClaimJoined
import GoSem.ClaimMapViews
import Derived.JoinedTies
import Derived.KernelRfl
namespace Go.Proofs.YtkjabiabeemfhaaGreatDoor
/- THE CELL 'sum', in the pinned program and in every row, IS THE sha256 OF THE DUMP (.gsa) THAT YtkjabiabeemfhaaGreatDoorProg.lean LOADS. Nothing in Lean hashes anything: it is a label: what it is worth is what the hold of that sum in a sandbox is worth. -/
noncomputable def Tryz.pinned : Pinned := { name := "ytkjabiabeemfhaagreatdoor", sum := "19fc2461a6f0c275e01e2f56fc9c184dc3a09e2c2bbf37d44074a9e54425548a", checked := Tryz.checked }
namespace Rows
def none {H : Type} : Left H := { results := [], args := [] }

/- WHAT THE LISTED PACKAGE-LEVEL VARIABLES READ AS WHEN THE CALL BEGINS. Each datum BY PROGRAM (the guide's laid-datum.mjs) off the statement by which the dump's own 'gosem.cut.vars' lays the variable. In a bare row this is a premise. The card (YtkjabiabeemfhaaGreatDoorCards.lean) ties it to the program's text. -/
def laid_chattel_term_shapes {H : Type} : DataW H := .agg [.agg [.lit (.int .i64 0), .lit (.int .i64 0), .agg [.lit (.int .i64 0), .lit (.int .i64 0), .lit (.int .i64 0), .lit (.int .i64 0)]], .agg [.lit (.int .i64 1), .lit (.int .i64 0), .agg [.lit (.int .i64 0), .lit (.int .i64 0), .lit (.int .i64 0), .lit (.int .i64 0)]], .agg [.lit (.int .i64 1), .lit (.int .i64 0), .agg [.lit (.int .i64 0), .lit (.int .i64 0), .lit (.int .i64 0), .lit (.int .i64 0)]], .agg [.lit (.int .i64 1), .lit (.int .i64 1), .agg [.lit (.int .i64 1), .lit (.int .i64 0), .lit (.int .i64 0), .lit (.int .i64 0)]], .agg [.lit (.int .i64 1), .lit (.int .i64 2), .agg [.lit (.int .i64 1), .lit (.int .i64 1), .lit (.int .i64 0), .lit (.int .i64 0)]], .agg [.lit (.int .i64 1), .lit (.int .i64 2), .agg [.lit (.int .i64 1), .lit (.int .i64 1), .lit (.int .i64 0), .lit (.int .i64 0)]], .agg [.lit (.int .i64 1), .lit (.int .i64 2), .agg [.lit (.int .i64 1), .lit (.int .i64 1), .lit (.int .i64 0), .lit (.int .i64 0)]], .agg [.lit (.int .i64 1), .lit (.int .i64 2), .agg [.lit (.int .i64 1), .lit (.int .i64 1), .lit (.int .i64 0), .lit (.int .i64 0)]], .agg [.lit (.int .i64 1), .lit (.int .i64 2), .agg [.lit (.int .i64 1), .lit (.int .i64 1), .lit (.int .i64 0), .lit (.int .i64 0)]], .agg [.lit (.int .i64 2), .lit (.int .i64 0), .agg [.lit (.int .i64 0), .lit (.int .i64 0), .lit (.int .i64 0), .lit (.int .i64 0)]], .agg [.lit (.int .i64 2), .lit (.int .i64 0), .agg [.lit (.int .i64 0), .lit (.int .i64 0), .lit (.int .i64 0), .lit (.int .i64 0)]], .agg [.lit (.int .i64 2), .lit (.int .i64 1), .agg [.lit (.int .i64 2), .lit (.int .i64 0), .lit (.int .i64 0), .lit (.int .i64 0)]], .agg [.lit (.int .i64 2), .lit (.int .i64 2), .agg [.lit (.int .i64 2), .lit (.int .i64 2), .lit (.int .i64 0), .lit (.int .i64 0)]], .agg [.lit (.int .i64 2), .lit (.int .i64 2), .agg [.lit (.int .i64 1), .lit (.int .i64 2), .lit (.int .i64 0), .lit (.int .i64 0)]], .agg [.lit (.int .i64 2), .lit (.int .i64 1), .agg [.lit (.int .i64 2), .lit (.int .i64 0), .lit (.int .i64 0), .lit (.int .i64 0)]], .agg [.lit (.int .i64 2), .lit (.int .i64 4), .agg [.lit (.int .i64 1), .lit (.int .i64 1), .lit (.int .i64 2), .lit (.int .i64 2)]], .agg [.lit (.int .i64 2), .lit (.int .i64 2), .agg [.lit (.int .i64 2), .lit (.int .i64 2), .lit (.int .i64 0), .lit (.int .i64 0)]], .agg [.lit (.int .i64 2), .lit (.int .i64 1), .agg [.lit (.int .i64 2), .lit (.int .i64 0), .lit (.int .i64 0), .lit (.int .i64 0)]]]

/-- 'chattellaw09.DenoteTells': WHATEVER THE INPUT: true; the input reads as it did. -/
def denoteTellsSpec : ChangeSpec := { name := "denoteTells", fn := fun _ => fun
  | [d] => { results := [.lit (.bool true)], args := [d] }
  | _ => none }
def denoteTellsRow : OpenClaim := { program := "ytkjabiabeemfhaagreatdoor", sum := "19fc2461a6f0c275e01e2f56fc9c184dc3a09e2c2bbf37d44074a9e54425548a", func := "chattel/chattellaw09.DenoteTells", spec := "denoteTells", inPlace := ["math/bits.Add64", "math/bits.Sub64"], unfollowed := true, recurses := true, named := ["chattel/term.shapes", "math/bits.divideError", "math/bits.overflowError"], plainKeys := false, apart := false, laid := [("chattel/term.shapes", laid_chattel_term_shapes)] }
def DenoteTellsSaid : Prop := denoteTellsRow.holds Tryz.pinned (OpenSpec.ofChange denoteTellsSpec)

/-- ITS FALSE NEIGHBOUR: 'it returns false'. Refute it at one input. -/
def denoteTellsWrong : ChangeSpec := { name := "denoteTells", fn := fun _ => fun
  | [d] => { results := [.lit (.bool false)], args := [d] }
  | _ => none }
def DenoteTellsWrongFalsely : Prop := denoteTellsRow.holds Tryz.pinned (OpenSpec.ofChange denoteTellsWrong)

/-- 'chattellaw09.DenoteUpTo': WHATEVER THE INPUT: true; the input reads as it did. -/
def denoteUpToSpec : ChangeSpec := { name := "denoteUpTo", fn := fun _ => fun
  | [d1, d2] => { results := [.lit (.bool true)], args := [d1, d2] }
  | _ => none }
def denoteUpToRow : OpenClaim := { program := "ytkjabiabeemfhaagreatdoor", sum := "19fc2461a6f0c275e01e2f56fc9c184dc3a09e2c2bbf37d44074a9e54425548a", func := "chattel/chattellaw09.DenoteUpTo", spec := "denoteUpTo", inPlace := ["math/bits.Add64", "math/bits.Sub64"], unfollowed := true, recurses := true, named := ["chattel/term.shapes", "math/bits.divideError", "math/bits.overflowError"], plainKeys := false, apart := false, laid := [("chattel/term.shapes", laid_chattel_term_shapes)] }
def DenoteUpToSaid : Prop := denoteUpToRow.holds Tryz.pinned (OpenSpec.ofChange denoteUpToSpec)

/-- ITS FALSE NEIGHBOUR: 'it returns false'. Refute it at one input. -/
def denoteUpToWrong : ChangeSpec := { name := "denoteUpTo", fn := fun _ => fun
  | [d1, d2] => { results := [.lit (.bool false)], args := [d1, d2] }
  | _ => none }
def DenoteUpToWrongFalsely : Prop := denoteUpToRow.holds Tryz.pinned (OpenSpec.ofChange denoteUpToWrong)

/-- 'chattellaw09.DenoteKnown': WHATEVER THE INPUT: true; the input reads as it did. -/
def denoteKnownSpec : ChangeSpec := { name := "denoteKnown", fn := fun _ => fun
  | [d1, d2] => { results := [.lit (.bool true)], args := [d1, d2] }
  | _ => none }
def denoteKnownRow : OpenClaim := { program := "ytkjabiabeemfhaagreatdoor", sum := "19fc2461a6f0c275e01e2f56fc9c184dc3a09e2c2bbf37d44074a9e54425548a", func := "chattel/chattellaw09.DenoteKnown", spec := "denoteKnown", inPlace := ["math/bits.Add64", "math/bits.Sub64"], unfollowed := true, recurses := true, named := ["chattel/term.shapes", "math/bits.divideError", "math/bits.overflowError"], plainKeys := false, apart := false, laid := [("chattel/term.shapes", laid_chattel_term_shapes)] }
def DenoteKnownSaid : Prop := denoteKnownRow.holds Tryz.pinned (OpenSpec.ofChange denoteKnownSpec)

/-- ITS FALSE NEIGHBOUR: 'it returns false'. Refute it at one input. -/
def denoteKnownWrong : ChangeSpec := { name := "denoteKnown", fn := fun _ => fun
  | [d1, d2] => { results := [.lit (.bool false)], args := [d1, d2] }
  | _ => none }
def DenoteKnownWrongFalsely : Prop := denoteKnownRow.holds Tryz.pinned (OpenSpec.ofChange denoteKnownWrong)

/-- 'chattellaw09.DenoteSame': WHATEVER THE INPUT: true; the input reads as it did. -/
def denoteSameSpec : ChangeSpec := { name := "denoteSame", fn := fun _ => fun
  | [d] => { results := [.lit (.bool true)], args := [d] }
  | _ => none }
def denoteSameRow : OpenClaim := { program := "ytkjabiabeemfhaagreatdoor", sum := "19fc2461a6f0c275e01e2f56fc9c184dc3a09e2c2bbf37d44074a9e54425548a", func := "chattel/chattellaw09.DenoteSame", spec := "denoteSame", inPlace := ["math/bits.Add64", "math/bits.Sub64"], unfollowed := true, recurses := true, named := ["chattel/term.shapes", "math/bits.divideError", "math/bits.overflowError"], plainKeys := false, apart := false, laid := [("chattel/term.shapes", laid_chattel_term_shapes)] }
def DenoteSameSaid : Prop := denoteSameRow.holds Tryz.pinned (OpenSpec.ofChange denoteSameSpec)

/-- ITS FALSE NEIGHBOUR: 'it returns false'. Refute it at one input. -/
def denoteSameWrong : ChangeSpec := { name := "denoteSame", fn := fun _ => fun
  | [d] => { results := [.lit (.bool false)], args := [d] }
  | _ => none }
def DenoteSameWrongFalsely : Prop := denoteSameRow.holds Tryz.pinned (OpenSpec.ofChange denoteSameWrong)

/-- 'chattellaw09.DenoteNets': WHATEVER THE INPUT: true; the input reads as it did. -/
def denoteNetsSpec : ChangeSpec := { name := "denoteNets", fn := fun _ => fun
  | [d1, d2] => { results := [.lit (.bool true)], args := [d1, d2] }
  | _ => none }
def denoteNetsRow : OpenClaim := { program := "ytkjabiabeemfhaagreatdoor", sum := "19fc2461a6f0c275e01e2f56fc9c184dc3a09e2c2bbf37d44074a9e54425548a", func := "chattel/chattellaw09.DenoteNets", spec := "denoteNets", inPlace := ["math/bits.Add64", "math/bits.Sub64"], unfollowed := true, recurses := true, named := ["chattel/term.shapes", "math/bits.divideError", "math/bits.overflowError"], plainKeys := false, apart := false, laid := [("chattel/term.shapes", laid_chattel_term_shapes)] }
def DenoteNetsSaid : Prop := denoteNetsRow.holds Tryz.pinned (OpenSpec.ofChange denoteNetsSpec)

/-- ITS FALSE NEIGHBOUR: 'it returns false'. Refute it at one input. -/
def denoteNetsWrong : ChangeSpec := { name := "denoteNets", fn := fun _ => fun
  | [d1, d2] => { results := [.lit (.bool false)], args := [d1, d2] }
  | _ => none }
def DenoteNetsWrongFalsely : Prop := denoteNetsRow.holds Tryz.pinned (OpenSpec.ofChange denoteNetsWrong)

/-- 'chattellaw09.DenoteGives': WHATEVER THE INPUT: true; the input reads as it did. -/
def denoteGivesSpec : ChangeSpec := { name := "denoteGives", fn := fun _ => fun
  | [d] => { results := [.lit (.bool true)], args := [d] }
  | _ => none }
def denoteGivesRow : OpenClaim := { program := "ytkjabiabeemfhaagreatdoor", sum := "19fc2461a6f0c275e01e2f56fc9c184dc3a09e2c2bbf37d44074a9e54425548a", func := "chattel/chattellaw09.DenoteGives", spec := "denoteGives", inPlace := ["math/bits.Add64", "math/bits.Sub64"], unfollowed := true, recurses := true, named := ["chattel/term.shapes", "math/bits.divideError", "math/bits.overflowError"], plainKeys := false, apart := false, laid := [("chattel/term.shapes", laid_chattel_term_shapes)] }
def DenoteGivesSaid : Prop := denoteGivesRow.holds Tryz.pinned (OpenSpec.ofChange denoteGivesSpec)

/-- ITS FALSE NEIGHBOUR: 'it returns false'. Refute it at one input. -/
def denoteGivesWrong : ChangeSpec := { name := "denoteGives", fn := fun _ => fun
  | [d] => { results := [.lit (.bool false)], args := [d] }
  | _ => none }
def DenoteGivesWrongFalsely : Prop := denoteGivesRow.holds Tryz.pinned (OpenSpec.ofChange denoteGivesWrong)

/-- 'chattellaw09.DenoteBoth': WHATEVER THE INPUT: true; the input reads as it did. -/
def denoteBothSpec : ChangeSpec := { name := "denoteBoth", fn := fun _ => fun
  | [d1, d2, d3] => { results := [.lit (.bool true)], args := [d1, d2, d3] }
  | _ => none }
def denoteBothRow : OpenClaim := { program := "ytkjabiabeemfhaagreatdoor", sum := "19fc2461a6f0c275e01e2f56fc9c184dc3a09e2c2bbf37d44074a9e54425548a", func := "chattel/chattellaw09.DenoteBoth", spec := "denoteBoth", inPlace := ["math/bits.Add64", "math/bits.Sub64"], unfollowed := true, recurses := true, named := ["chattel/term.shapes", "math/bits.divideError", "math/bits.overflowError"], plainKeys := false, apart := false, laid := [("chattel/term.shapes", laid_chattel_term_shapes)] }
def DenoteBothSaid : Prop := denoteBothRow.holds Tryz.pinned (OpenSpec.ofChange denoteBothSpec)

/-- ITS FALSE NEIGHBOUR: 'it returns false'. Refute it at one input. -/
def denoteBothWrong : ChangeSpec := { name := "denoteBoth", fn := fun _ => fun
  | [d1, d2, d3] => { results := [.lit (.bool false)], args := [d1, d2, d3] }
  | _ => none }
def DenoteBothWrongFalsely : Prop := denoteBothRow.holds Tryz.pinned (OpenSpec.ofChange denoteBothWrong)

/-- 'chattellaw10.StepRuns': WHATEVER THE INPUT: true; the input reads as it did. -/
def stepRunsSpec : ChangeSpec := { name := "stepRuns", fn := fun _ => fun
  | [d1, d2, d3] => { results := [.lit (.bool true)], args := [d1, d2, d3] }
  | _ => none }
def stepRunsRow : OpenClaim := { program := "ytkjabiabeemfhaagreatdoor", sum := "19fc2461a6f0c275e01e2f56fc9c184dc3a09e2c2bbf37d44074a9e54425548a", func := "chattel/chattellaw10.StepRuns", spec := "stepRuns", inPlace := ["math/bits.Add64", "math/bits.Sub64"], unfollowed := true, recurses := true, named := ["chattel/term.shapes", "math/bits.divideError", "math/bits.overflowError"], plainKeys := false, apart := false, laid := [("chattel/term.shapes", laid_chattel_term_shapes)] }
def StepRunsSaid : Prop := stepRunsRow.holds Tryz.pinned (OpenSpec.ofChange stepRunsSpec)

/-- ITS FALSE NEIGHBOUR: 'it returns false'. Refute it at one input. -/
def stepRunsWrong : ChangeSpec := { name := "stepRuns", fn := fun _ => fun
  | [d1, d2, d3] => { results := [.lit (.bool false)], args := [d1, d2, d3] }
  | _ => none }
def StepRunsWrongFalsely : Prop := stepRunsRow.holds Tryz.pinned (OpenSpec.ofChange stepRunsWrong)

/-- 'chattellaw10.StepStops': WHATEVER THE INPUT: true; the input reads as it did. -/
def stepStopsSpec : ChangeSpec := { name := "stepStops", fn := fun _ => fun
  | [d1, d2] => { results := [.lit (.bool true)], args := [d1, d2] }
  | _ => none }
def stepStopsRow : OpenClaim := { program := "ytkjabiabeemfhaagreatdoor", sum := "19fc2461a6f0c275e01e2f56fc9c184dc3a09e2c2bbf37d44074a9e54425548a", func := "chattel/chattellaw10.StepStops", spec := "stepStops", inPlace := ["math/bits.Add64", "math/bits.Sub64"], unfollowed := true, recurses := true, named := ["chattel/term.shapes", "math/bits.divideError", "math/bits.overflowError"], plainKeys := false, apart := false, laid := [("chattel/term.shapes", laid_chattel_term_shapes)] }
def StepStopsSaid : Prop := stepStopsRow.holds Tryz.pinned (OpenSpec.ofChange stepStopsSpec)

/-- ITS FALSE NEIGHBOUR: 'it returns false'. Refute it at one input. -/
def stepStopsWrong : ChangeSpec := { name := "stepStops", fn := fun _ => fun
  | [d1, d2] => { results := [.lit (.bool false)], args := [d1, d2] }
  | _ => none }
def StepStopsWrongFalsely : Prop := stepStopsRow.holds Tryz.pinned (OpenSpec.ofChange stepStopsWrong)

/-- 'chattellaw10.StepGives': WHATEVER THE INPUT: true; the input reads as it did. -/
def stepGivesSpec : ChangeSpec := { name := "stepGives", fn := fun _ => fun
  | [d1, d2, d3] => { results := [.lit (.bool true)], args := [d1, d2, d3] }
  | _ => none }
def stepGivesRow : OpenClaim := { program := "ytkjabiabeemfhaagreatdoor", sum := "19fc2461a6f0c275e01e2f56fc9c184dc3a09e2c2bbf37d44074a9e54425548a", func := "chattel/chattellaw10.StepGives", spec := "stepGives", inPlace := ["math/bits.Add64", "math/bits.Sub64"], unfollowed := true, recurses := true, named := ["chattel/term.shapes", "math/bits.divideError", "math/bits.overflowError"], plainKeys := false, apart := false, laid := [("chattel/term.shapes", laid_chattel_term_shapes)] }
def StepGivesSaid : Prop := stepGivesRow.holds Tryz.pinned (OpenSpec.ofChange stepGivesSpec)

/-- ITS FALSE NEIGHBOUR: 'it returns false'. Refute it at one input. -/
def stepGivesWrong : ChangeSpec := { name := "stepGives", fn := fun _ => fun
  | [d1, d2, d3] => { results := [.lit (.bool false)], args := [d1, d2, d3] }
  | _ => none }
def StepGivesWrongFalsely : Prop := stepGivesRow.holds Tryz.pinned (OpenSpec.ofChange stepGivesWrong)

/-- 'chattellaw10.StepCopies': WHATEVER THE INPUT: true; the input reads as it did. -/
def stepCopiesSpec : ChangeSpec := { name := "stepCopies", fn := fun _ => fun
  | [d1, d2] => { results := [.lit (.bool true)], args := [d1, d2] }
  | _ => none }
def stepCopiesRow : OpenClaim := { program := "ytkjabiabeemfhaagreatdoor", sum := "19fc2461a6f0c275e01e2f56fc9c184dc3a09e2c2bbf37d44074a9e54425548a", func := "chattel/chattellaw10.StepCopies", spec := "stepCopies", inPlace := ["math/bits.Add64", "math/bits.Sub64", "maps.clone"], unfollowed := true, recurses := true, named := ["chattel/term.shapes", "math/bits.divideError", "math/bits.overflowError"], plainKeys := false, apart := false, laid := [("chattel/term.shapes", laid_chattel_term_shapes)] }
def StepCopiesSaid : Prop := stepCopiesRow.holds Tryz.pinned (OpenSpec.ofChange stepCopiesSpec)

/-- ITS FALSE NEIGHBOUR: 'it returns false'. Refute it at one input. -/
def stepCopiesWrong : ChangeSpec := { name := "stepCopies", fn := fun _ => fun
  | [d1, d2] => { results := [.lit (.bool false)], args := [d1, d2] }
  | _ => none }
def StepCopiesWrongFalsely : Prop := stepCopiesRow.holds Tryz.pinned (OpenSpec.ofChange stepCopiesWrong)

/-- 'chattellaw10.StepDenotes': WHATEVER THE INPUT: true; the input reads as it did. -/
def stepDenotesSpec : ChangeSpec := { name := "stepDenotes", fn := fun _ => fun
  | [d1, d2, d3] => { results := [.lit (.bool true)], args := [d1, d2, d3] }
  | _ => none }
def stepDenotesRow : OpenClaim := { program := "ytkjabiabeemfhaagreatdoor", sum := "19fc2461a6f0c275e01e2f56fc9c184dc3a09e2c2bbf37d44074a9e54425548a", func := "chattel/chattellaw10.StepDenotes", spec := "stepDenotes", inPlace := ["math/bits.Add64", "math/bits.Sub64"], unfollowed := true, recurses := true, named := ["chattel/term.shapes", "math/bits.divideError", "math/bits.overflowError"], plainKeys := false, apart := false, laid := [("chattel/term.shapes", laid_chattel_term_shapes)] }
def StepDenotesSaid : Prop := stepDenotesRow.holds Tryz.pinned (OpenSpec.ofChange stepDenotesSpec)

/-- ITS FALSE NEIGHBOUR: 'it returns false'. Refute it at one input. -/
def stepDenotesWrong : ChangeSpec := { name := "stepDenotes", fn := fun _ => fun
  | [d1, d2, d3] => { results := [.lit (.bool false)], args := [d1, d2, d3] }
  | _ => none }
def StepDenotesWrongFalsely : Prop := stepDenotesRow.holds Tryz.pinned (OpenSpec.ofChange stepDenotesWrong)

/- THE SECOND FORM. 'bulk': how many values and letters a reading holds, each counted each time it is reached (what is shared counts as often as it is met; a slice's spare places count too). A statement '..UptoSaid' is the law's where the arguments, and the package variables that the reading takes, are together of bulk at most 1048576: NARROWER than '..Said'. Prove '..Said' where nothing that the law and all that it calls make is longer than what came in: it says more and counts as full. Else prove '..UptoSaid'. A law counts once. -/
mutual
def uptoBulk {H : Type} : DataW H → Nat
  | .lit (.string bytes) => bytes.length + 1
  | .lit _ => 1
  | .nil => 1
  | .ptr d => uptoBulk d + 1
  | .slice elems spare => uptoBulkAll elems + uptoBulkAll spare + 1
  | .agg parts => uptoBulkAll parts + 1
  | .iface _ d => uptoBulk d + 1
  | .map entries => uptoBulkEntries entries + 1
  | .held _ => 1
def uptoBulkAll {H : Type} : List (DataW H) → Nat
  | [] => 0
  | d :: r => uptoBulk d + uptoBulkAll r
def uptoBulkEntries {H : Type} : List (Lit × DataW H) → Nat
  | [] => 0
  | x :: r => uptoBulkEntry x + uptoBulkEntries r
def uptoBulkEntry {H : Type} : Lit × DataW H → Nat
  | (.string bytes, d) => bytes.length + uptoBulk d + 1
  | (_, d) => uptoBulk d + 1
 end
def uptoSmall : (H : Type) → List (DataW H) → Bool := fun _ ds => decide (uptoBulkAll ds ≤ 1048576)
def OpenSpec.upto (s : _root_.Go.ChangeSpec) : _root_.Go.OpenSpec := { _root_.Go.OpenSpec.ofChange s with cond := some uptoSmall }

/-- 'chattellaw09.DenoteTells', WHERE WHAT IT READS IS OF BULK AT MOST 1048576: true; the input reads as it did. -/
def denoteTellsUptoRow : OpenClaim := { program := "ytkjabiabeemfhaagreatdoor", sum := "19fc2461a6f0c275e01e2f56fc9c184dc3a09e2c2bbf37d44074a9e54425548a", func := "chattel/chattellaw09.DenoteTells", spec := "denoteTells", inPlace := ["math/bits.Add64", "math/bits.Sub64"], unfollowed := true, recurses := true, named := ["chattel/term.shapes", "math/bits.divideError", "math/bits.overflowError"], plainKeys := false, apart := false, laid := [("chattel/term.shapes", laid_chattel_term_shapes)], narrowed := true }
def DenoteTellsUptoSaid : Prop := denoteTellsUptoRow.holds Tryz.pinned (OpenSpec.upto denoteTellsSpec)

/-- 'chattellaw09.DenoteUpTo', WHERE WHAT IT READS IS OF BULK AT MOST 1048576: true; the input reads as it did. -/
def denoteUpToUptoRow : OpenClaim := { program := "ytkjabiabeemfhaagreatdoor", sum := "19fc2461a6f0c275e01e2f56fc9c184dc3a09e2c2bbf37d44074a9e54425548a", func := "chattel/chattellaw09.DenoteUpTo", spec := "denoteUpTo", inPlace := ["math/bits.Add64", "math/bits.Sub64"], unfollowed := true, recurses := true, named := ["chattel/term.shapes", "math/bits.divideError", "math/bits.overflowError"], plainKeys := false, apart := false, laid := [("chattel/term.shapes", laid_chattel_term_shapes)], narrowed := true }
def DenoteUpToUptoSaid : Prop := denoteUpToUptoRow.holds Tryz.pinned (OpenSpec.upto denoteUpToSpec)

/-- 'chattellaw09.DenoteKnown', WHERE WHAT IT READS IS OF BULK AT MOST 1048576: true; the input reads as it did. -/
def denoteKnownUptoRow : OpenClaim := { program := "ytkjabiabeemfhaagreatdoor", sum := "19fc2461a6f0c275e01e2f56fc9c184dc3a09e2c2bbf37d44074a9e54425548a", func := "chattel/chattellaw09.DenoteKnown", spec := "denoteKnown", inPlace := ["math/bits.Add64", "math/bits.Sub64"], unfollowed := true, recurses := true, named := ["chattel/term.shapes", "math/bits.divideError", "math/bits.overflowError"], plainKeys := false, apart := false, laid := [("chattel/term.shapes", laid_chattel_term_shapes)], narrowed := true }
def DenoteKnownUptoSaid : Prop := denoteKnownUptoRow.holds Tryz.pinned (OpenSpec.upto denoteKnownSpec)

/-- 'chattellaw09.DenoteSame', WHERE WHAT IT READS IS OF BULK AT MOST 1048576: true; the input reads as it did. -/
def denoteSameUptoRow : OpenClaim := { program := "ytkjabiabeemfhaagreatdoor", sum := "19fc2461a6f0c275e01e2f56fc9c184dc3a09e2c2bbf37d44074a9e54425548a", func := "chattel/chattellaw09.DenoteSame", spec := "denoteSame", inPlace := ["math/bits.Add64", "math/bits.Sub64"], unfollowed := true, recurses := true, named := ["chattel/term.shapes", "math/bits.divideError", "math/bits.overflowError"], plainKeys := false, apart := false, laid := [("chattel/term.shapes", laid_chattel_term_shapes)], narrowed := true }
def DenoteSameUptoSaid : Prop := denoteSameUptoRow.holds Tryz.pinned (OpenSpec.upto denoteSameSpec)

/-- 'chattellaw09.DenoteNets', WHERE WHAT IT READS IS OF BULK AT MOST 1048576: true; the input reads as it did. -/
def denoteNetsUptoRow : OpenClaim := { program := "ytkjabiabeemfhaagreatdoor", sum := "19fc2461a6f0c275e01e2f56fc9c184dc3a09e2c2bbf37d44074a9e54425548a", func := "chattel/chattellaw09.DenoteNets", spec := "denoteNets", inPlace := ["math/bits.Add64", "math/bits.Sub64"], unfollowed := true, recurses := true, named := ["chattel/term.shapes", "math/bits.divideError", "math/bits.overflowError"], plainKeys := false, apart := false, laid := [("chattel/term.shapes", laid_chattel_term_shapes)], narrowed := true }
def DenoteNetsUptoSaid : Prop := denoteNetsUptoRow.holds Tryz.pinned (OpenSpec.upto denoteNetsSpec)

/-- 'chattellaw09.DenoteGives', WHERE WHAT IT READS IS OF BULK AT MOST 1048576: true; the input reads as it did. -/
def denoteGivesUptoRow : OpenClaim := { program := "ytkjabiabeemfhaagreatdoor", sum := "19fc2461a6f0c275e01e2f56fc9c184dc3a09e2c2bbf37d44074a9e54425548a", func := "chattel/chattellaw09.DenoteGives", spec := "denoteGives", inPlace := ["math/bits.Add64", "math/bits.Sub64"], unfollowed := true, recurses := true, named := ["chattel/term.shapes", "math/bits.divideError", "math/bits.overflowError"], plainKeys := false, apart := false, laid := [("chattel/term.shapes", laid_chattel_term_shapes)], narrowed := true }
def DenoteGivesUptoSaid : Prop := denoteGivesUptoRow.holds Tryz.pinned (OpenSpec.upto denoteGivesSpec)

/-- 'chattellaw09.DenoteBoth', WHERE WHAT IT READS IS OF BULK AT MOST 1048576: true; the input reads as it did. -/
def denoteBothUptoRow : OpenClaim := { program := "ytkjabiabeemfhaagreatdoor", sum := "19fc2461a6f0c275e01e2f56fc9c184dc3a09e2c2bbf37d44074a9e54425548a", func := "chattel/chattellaw09.DenoteBoth", spec := "denoteBoth", inPlace := ["math/bits.Add64", "math/bits.Sub64"], unfollowed := true, recurses := true, named := ["chattel/term.shapes", "math/bits.divideError", "math/bits.overflowError"], plainKeys := false, apart := false, laid := [("chattel/term.shapes", laid_chattel_term_shapes)], narrowed := true }
def DenoteBothUptoSaid : Prop := denoteBothUptoRow.holds Tryz.pinned (OpenSpec.upto denoteBothSpec)

/-- 'chattellaw10.StepRuns', WHERE WHAT IT READS IS OF BULK AT MOST 1048576: true; the input reads as it did. -/
def stepRunsUptoRow : OpenClaim := { program := "ytkjabiabeemfhaagreatdoor", sum := "19fc2461a6f0c275e01e2f56fc9c184dc3a09e2c2bbf37d44074a9e54425548a", func := "chattel/chattellaw10.StepRuns", spec := "stepRuns", inPlace := ["math/bits.Add64", "math/bits.Sub64"], unfollowed := true, recurses := true, named := ["chattel/term.shapes", "math/bits.divideError", "math/bits.overflowError"], plainKeys := false, apart := false, laid := [("chattel/term.shapes", laid_chattel_term_shapes)], narrowed := true }
def StepRunsUptoSaid : Prop := stepRunsUptoRow.holds Tryz.pinned (OpenSpec.upto stepRunsSpec)

/-- 'chattellaw10.StepStops', WHERE WHAT IT READS IS OF BULK AT MOST 1048576: true; the input reads as it did. -/
def stepStopsUptoRow : OpenClaim := { program := "ytkjabiabeemfhaagreatdoor", sum := "19fc2461a6f0c275e01e2f56fc9c184dc3a09e2c2bbf37d44074a9e54425548a", func := "chattel/chattellaw10.StepStops", spec := "stepStops", inPlace := ["math/bits.Add64", "math/bits.Sub64"], unfollowed := true, recurses := true, named := ["chattel/term.shapes", "math/bits.divideError", "math/bits.overflowError"], plainKeys := false, apart := false, laid := [("chattel/term.shapes", laid_chattel_term_shapes)], narrowed := true }
def StepStopsUptoSaid : Prop := stepStopsUptoRow.holds Tryz.pinned (OpenSpec.upto stepStopsSpec)

/-- 'chattellaw10.StepGives', WHERE WHAT IT READS IS OF BULK AT MOST 1048576: true; the input reads as it did. -/
def stepGivesUptoRow : OpenClaim := { program := "ytkjabiabeemfhaagreatdoor", sum := "19fc2461a6f0c275e01e2f56fc9c184dc3a09e2c2bbf37d44074a9e54425548a", func := "chattel/chattellaw10.StepGives", spec := "stepGives", inPlace := ["math/bits.Add64", "math/bits.Sub64"], unfollowed := true, recurses := true, named := ["chattel/term.shapes", "math/bits.divideError", "math/bits.overflowError"], plainKeys := false, apart := false, laid := [("chattel/term.shapes", laid_chattel_term_shapes)], narrowed := true }
def StepGivesUptoSaid : Prop := stepGivesUptoRow.holds Tryz.pinned (OpenSpec.upto stepGivesSpec)

/-- 'chattellaw10.StepCopies', WHERE WHAT IT READS IS OF BULK AT MOST 1048576: true; the input reads as it did. -/
def stepCopiesUptoRow : OpenClaim := { program := "ytkjabiabeemfhaagreatdoor", sum := "19fc2461a6f0c275e01e2f56fc9c184dc3a09e2c2bbf37d44074a9e54425548a", func := "chattel/chattellaw10.StepCopies", spec := "stepCopies", inPlace := ["math/bits.Add64", "math/bits.Sub64", "maps.clone"], unfollowed := true, recurses := true, named := ["chattel/term.shapes", "math/bits.divideError", "math/bits.overflowError"], plainKeys := false, apart := false, laid := [("chattel/term.shapes", laid_chattel_term_shapes)], narrowed := true }
def StepCopiesUptoSaid : Prop := stepCopiesUptoRow.holds Tryz.pinned (OpenSpec.upto stepCopiesSpec)

/-- 'chattellaw10.StepDenotes', WHERE WHAT IT READS IS OF BULK AT MOST 1048576: true; the input reads as it did. -/
def stepDenotesUptoRow : OpenClaim := { program := "ytkjabiabeemfhaagreatdoor", sum := "19fc2461a6f0c275e01e2f56fc9c184dc3a09e2c2bbf37d44074a9e54425548a", func := "chattel/chattellaw10.StepDenotes", spec := "stepDenotes", inPlace := ["math/bits.Add64", "math/bits.Sub64"], unfollowed := true, recurses := true, named := ["chattel/term.shapes", "math/bits.divideError", "math/bits.overflowError"], plainKeys := false, apart := false, laid := [("chattel/term.shapes", laid_chattel_term_shapes)], narrowed := true }
def StepDenotesUptoSaid : Prop := stepDenotesUptoRow.holds Tryz.pinned (OpenSpec.upto stepDenotesSpec)

end Rows
end Go.Proofs.YtkjabiabeemfhaaGreatDoor
