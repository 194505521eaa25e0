/-
  No cell of these rows narrows 'for every input' (looked for: loops, veiled, ifaces, maps, wideKeys, modest, calm, conditions, laid).
  DERIVED. THE GIVEN ROWS OF THIS SEAT. 11 by the template 'for every input the law returns true; each argument reads behind the call as it read before'; 0 by the template 'total and deterministic' (their statements: YtelbedmfnmjehaaTotals.lean).
  GIVEN WITH THE SEED: the statements are not yours to turn. If you find one false, say at which input.
  Laid BY PROGRAM, IN A SANDBOX (cutbox-rows.mjs): the forced cells as the released guide's own fill.sh prints them over the translation 3b4d690e8405d900… (all of the seat's roots in one cut). By AI agents, Wed Nov 11 2026. No macro, syntax, notation, axiom, sorry.
-/
import Derived.Test.YtelbedmfnmjehaaChecked
import GoSem.Claim
import GoSem.ClaimJoined
import GoSem.ClaimMapViews
import Derived.JoinedTies
import Derived.KernelRfl
namespace Go.Proofs.Ytelbedmfnmjehaa
/- THE CELL 'sum', in the pinned program and in every row, IS THE sha256 OF THE DUMP (.gsa) THAT YtelbedmfnmjehaaProg.lean LOADS. Nothing in Lean hashes anything: it is a label: what it is worth is what the hold of that sum in a sandbox is worth. -/
noncomputable def Try.pinned : Pinned := { name := "ytelbedmfnmjehaa", sum := "3b4d690e8405d9002e60efee029d835232323aa6d6f426ad17de16a456382874", checked := Try.checked }
namespace Rows
def none {H : Type} : Left H := { results := [], args := [] }

/-- 'laws.FnExactLengthOfCourse': WHATEVER THE INPUT: true; the input reads as it did. -/
def fnExactLengthOfCourseSpec : ChangeSpec := { name := "fnExactLengthOfCourse", fn := fun _ => fun
  | [d1, d2] => { results := [.lit (.bool true)], args := [d1, d2] }
  | _ => none }
def fnExactLengthOfCourseRow : OpenClaim := { program := "ytelbedmfnmjehaa", sum := "3b4d690e8405d9002e60efee029d835232323aa6d6f426ad17de16a456382874", func := "loop.example/g01064/laws.FnExactLengthOfCourse", spec := "fnExactLengthOfCourse", apart := false }
def FnExactLengthOfCourseSaid : Prop := fnExactLengthOfCourseRow.holds Try.pinned (OpenSpec.ofChange fnExactLengthOfCourseSpec)

/-- ITS FALSE NEIGHBOUR: 'it returns false'. Refute it at one input. -/
def fnExactLengthOfCourseWrong : ChangeSpec := { name := "fnExactLengthOfCourse", fn := fun _ => fun
  | [d1, d2] => { results := [.lit (.bool false)], args := [d1, d2] }
  | _ => none }
def FnExactLengthOfCourseWrongFalsely : Prop := fnExactLengthOfCourseRow.holds Try.pinned (OpenSpec.ofChange fnExactLengthOfCourseWrong)

/-- 'laws.FnExactCoursesFor': WHATEVER THE INPUT: true; the input reads as it did. -/
def fnExactCoursesForSpec : ChangeSpec := { name := "fnExactCoursesFor", fn := fun _ => fun
  | [d1, d2, d3] => { results := [.lit (.bool true)], args := [d1, d2, d3] }
  | _ => none }
def fnExactCoursesForRow : OpenClaim := { program := "ytelbedmfnmjehaa", sum := "3b4d690e8405d9002e60efee029d835232323aa6d6f426ad17de16a456382874", func := "loop.example/g01064/laws.FnExactCoursesFor", spec := "fnExactCoursesFor", apart := false }
def FnExactCoursesForSaid : Prop := fnExactCoursesForRow.holds Try.pinned (OpenSpec.ofChange fnExactCoursesForSpec)

/-- ITS FALSE NEIGHBOUR: 'it returns false'. Refute it at one input. -/
def fnExactCoursesForWrong : ChangeSpec := { name := "fnExactCoursesFor", fn := fun _ => fun
  | [d1, d2, d3] => { results := [.lit (.bool false)], args := [d1, d2, d3] }
  | _ => none }
def FnExactCoursesForWrongFalsely : Prop := fnExactCoursesForRow.holds Try.pinned (OpenSpec.ofChange fnExactCoursesForWrong)

/-- 'laws.FnExactRodsFor': WHATEVER THE INPUT: true; the input reads as it did. -/
def fnExactRodsForSpec : ChangeSpec := { name := "fnExactRodsFor", fn := fun _ => fun
  | [d1, d2, d3, d4] => { results := [.lit (.bool true)], args := [d1, d2, d3, d4] }
  | _ => none }
def fnExactRodsForRow : OpenClaim := { program := "ytelbedmfnmjehaa", sum := "3b4d690e8405d9002e60efee029d835232323aa6d6f426ad17de16a456382874", func := "loop.example/g01064/laws.FnExactRodsFor", spec := "fnExactRodsFor", apart := false }
def FnExactRodsForSaid : Prop := fnExactRodsForRow.holds Try.pinned (OpenSpec.ofChange fnExactRodsForSpec)

/-- ITS FALSE NEIGHBOUR: 'it returns false'. Refute it at one input. -/
def fnExactRodsForWrong : ChangeSpec := { name := "fnExactRodsFor", fn := fun _ => fun
  | [d1, d2, d3, d4] => { results := [.lit (.bool false)], args := [d1, d2, d3, d4] }
  | _ => none }
def FnExactRodsForWrongFalsely : Prop := fnExactRodsForRow.holds Try.pinned (OpenSpec.ofChange fnExactRodsForWrong)

/-- 'laws.FnExactSameCourses': WHATEVER THE INPUT: true; the input reads as it did. -/
def fnExactSameCoursesSpec : ChangeSpec := { name := "fnExactSameCourses", fn := fun _ => fun
  | [d1, d2] => { results := [.lit (.bool true)], args := [d1, d2] }
  | _ => none }
def fnExactSameCoursesRow : OpenClaim := { program := "ytelbedmfnmjehaa", sum := "3b4d690e8405d9002e60efee029d835232323aa6d6f426ad17de16a456382874", func := "loop.example/g01064/laws.FnExactSameCourses", spec := "fnExactSameCourses", apart := false }
def FnExactSameCoursesSaid : Prop := fnExactSameCoursesRow.holds Try.pinned (OpenSpec.ofChange fnExactSameCoursesSpec)

/-- ITS FALSE NEIGHBOUR: 'it returns false'. Refute it at one input. -/
def fnExactSameCoursesWrong : ChangeSpec := { name := "fnExactSameCourses", fn := fun _ => fun
  | [d1, d2] => { results := [.lit (.bool false)], args := [d1, d2] }
  | _ => none }
def FnExactSameCoursesWrongFalsely : Prop := fnExactSameCoursesRow.holds Try.pinned (OpenSpec.ofChange fnExactSameCoursesWrong)

/-- 'laws.FnExactValidCourses': WHATEVER THE INPUT: true; the input reads as it did. -/
def fnExactValidCoursesSpec : ChangeSpec := { name := "fnExactValidCourses", fn := fun _ => fun
  | [d] => { results := [.lit (.bool true)], args := [d] }
  | _ => none }
def fnExactValidCoursesRow : OpenClaim := { program := "ytelbedmfnmjehaa", sum := "3b4d690e8405d9002e60efee029d835232323aa6d6f426ad17de16a456382874", func := "loop.example/g01064/laws.FnExactValidCourses", spec := "fnExactValidCourses", apart := false }
def FnExactValidCoursesSaid : Prop := fnExactValidCoursesRow.holds Try.pinned (OpenSpec.ofChange fnExactValidCoursesSpec)

/-- ITS FALSE NEIGHBOUR: 'it returns false'. Refute it at one input. -/
def fnExactValidCoursesWrong : ChangeSpec := { name := "fnExactValidCourses", fn := fun _ => fun
  | [d] => { results := [.lit (.bool false)], args := [d] }
  | _ => none }
def FnExactValidCoursesWrongFalsely : Prop := fnExactValidCoursesRow.holds Try.pinned (OpenSpec.ofChange fnExactValidCoursesWrong)

/-- 'laws.FnExactThickestCourse': WHATEVER THE INPUT: true; the input reads as it did. -/
def fnExactThickestCourseSpec : ChangeSpec := { name := "fnExactThickestCourse", fn := fun _ => fun
  | [d] => { results := [.lit (.bool true)], args := [d] }
  | _ => none }
def fnExactThickestCourseRow : OpenClaim := { program := "ytelbedmfnmjehaa", sum := "3b4d690e8405d9002e60efee029d835232323aa6d6f426ad17de16a456382874", func := "loop.example/g01064/laws.FnExactThickestCourse", spec := "fnExactThickestCourse", apart := false }
def FnExactThickestCourseSaid : Prop := fnExactThickestCourseRow.holds Try.pinned (OpenSpec.ofChange fnExactThickestCourseSpec)

/-- ITS FALSE NEIGHBOUR: 'it returns false'. Refute it at one input. -/
def fnExactThickestCourseWrong : ChangeSpec := { name := "fnExactThickestCourse", fn := fun _ => fun
  | [d] => { results := [.lit (.bool false)], args := [d] }
  | _ => none }
def FnExactThickestCourseWrongFalsely : Prop := fnExactThickestCourseRow.holds Try.pinned (OpenSpec.ofChange fnExactThickestCourseWrong)

/-- 'laws.FnExactLengthOfAll': WHATEVER THE INPUT: true; the input reads as it did. -/
def fnExactLengthOfAllSpec : ChangeSpec := { name := "fnExactLengthOfAll", fn := fun _ => fun
  | [d1, d2] => { results := [.lit (.bool true)], args := [d1, d2] }
  | _ => none }
def fnExactLengthOfAllRow : OpenClaim := { program := "ytelbedmfnmjehaa", sum := "3b4d690e8405d9002e60efee029d835232323aa6d6f426ad17de16a456382874", func := "loop.example/g01064/laws.FnExactLengthOfAll", spec := "fnExactLengthOfAll", apart := false }
def FnExactLengthOfAllSaid : Prop := fnExactLengthOfAllRow.holds Try.pinned (OpenSpec.ofChange fnExactLengthOfAllSpec)

/-- ITS FALSE NEIGHBOUR: 'it returns false'. Refute it at one input. -/
def fnExactLengthOfAllWrong : ChangeSpec := { name := "fnExactLengthOfAll", fn := fun _ => fun
  | [d1, d2] => { results := [.lit (.bool false)], args := [d1, d2] }
  | _ => none }
def FnExactLengthOfAllWrongFalsely : Prop := fnExactLengthOfAllRow.holds Try.pinned (OpenSpec.ofChange fnExactLengthOfAllWrong)

/-- 'laws.FnExactHeightOfCourses': WHATEVER THE INPUT: true; the input reads as it did. -/
def fnExactHeightOfCoursesSpec : ChangeSpec := { name := "fnExactHeightOfCourses", fn := fun _ => fun
  | [d1, d2] => { results := [.lit (.bool true)], args := [d1, d2] }
  | _ => none }
def fnExactHeightOfCoursesRow : OpenClaim := { program := "ytelbedmfnmjehaa", sum := "3b4d690e8405d9002e60efee029d835232323aa6d6f426ad17de16a456382874", func := "loop.example/g01064/laws.FnExactHeightOfCourses", spec := "fnExactHeightOfCourses", apart := false }
def FnExactHeightOfCoursesSaid : Prop := fnExactHeightOfCoursesRow.holds Try.pinned (OpenSpec.ofChange fnExactHeightOfCoursesSpec)

/-- ITS FALSE NEIGHBOUR: 'it returns false'. Refute it at one input. -/
def fnExactHeightOfCoursesWrong : ChangeSpec := { name := "fnExactHeightOfCourses", fn := fun _ => fun
  | [d1, d2] => { results := [.lit (.bool false)], args := [d1, d2] }
  | _ => none }
def FnExactHeightOfCoursesWrongFalsely : Prop := fnExactHeightOfCoursesRow.holds Try.pinned (OpenSpec.ofChange fnExactHeightOfCoursesWrong)

/-- 'laws.FnExactHeightAt': WHATEVER THE INPUT: true; the input reads as it did. -/
def fnExactHeightAtSpec : ChangeSpec := { name := "fnExactHeightAt", fn := fun _ => fun
  | [d1, d2] => { results := [.lit (.bool true)], args := [d1, d2] }
  | _ => none }
def fnExactHeightAtRow : OpenClaim := { program := "ytelbedmfnmjehaa", sum := "3b4d690e8405d9002e60efee029d835232323aa6d6f426ad17de16a456382874", func := "loop.example/g01064/laws.FnExactHeightAt", spec := "fnExactHeightAt", apart := false }
def FnExactHeightAtSaid : Prop := fnExactHeightAtRow.holds Try.pinned (OpenSpec.ofChange fnExactHeightAtSpec)

/-- ITS FALSE NEIGHBOUR: 'it returns false'. Refute it at one input. -/
def fnExactHeightAtWrong : ChangeSpec := { name := "fnExactHeightAt", fn := fun _ => fun
  | [d1, d2] => { results := [.lit (.bool false)], args := [d1, d2] }
  | _ => none }
def FnExactHeightAtWrongFalsely : Prop := fnExactHeightAtRow.holds Try.pinned (OpenSpec.ofChange fnExactHeightAtWrong)

/-- 'laws.FnWeavers': WHATEVER THE INPUT: true; the input reads as it did. -/
def fnWeaversSpec : ChangeSpec := { name := "fnWeavers", fn := fun _ => fun
  | [d] => { results := [.lit (.bool true)], args := [d] }
  | _ => none }
def fnWeaversRow : OpenClaim := { program := "ytelbedmfnmjehaa", sum := "3b4d690e8405d9002e60efee029d835232323aa6d6f426ad17de16a456382874", func := "loop.example/g01064/laws.FnWeavers", spec := "fnWeavers", apart := false }
def FnWeaversSaid : Prop := fnWeaversRow.holds Try.pinned (OpenSpec.ofChange fnWeaversSpec)

/-- ITS FALSE NEIGHBOUR: 'it returns false'. Refute it at one input. -/
def fnWeaversWrong : ChangeSpec := { name := "fnWeavers", fn := fun _ => fun
  | [d] => { results := [.lit (.bool false)], args := [d] }
  | _ => none }
def FnWeaversWrongFalsely : Prop := fnWeaversRow.holds Try.pinned (OpenSpec.ofChange fnWeaversWrong)

/-- 'laws.FnCourses': WHATEVER THE INPUT: true; the input reads as it did. -/
def fnCoursesSpec : ChangeSpec := { name := "fnCourses", fn := fun _ => fun
  | [d] => { results := [.lit (.bool true)], args := [d] }
  | _ => none }
def fnCoursesRow : OpenClaim := { program := "ytelbedmfnmjehaa", sum := "3b4d690e8405d9002e60efee029d835232323aa6d6f426ad17de16a456382874", func := "loop.example/g01064/laws.FnCourses", spec := "fnCourses", apart := false }
def FnCoursesSaid : Prop := fnCoursesRow.holds Try.pinned (OpenSpec.ofChange fnCoursesSpec)

/-- ITS FALSE NEIGHBOUR: 'it returns false'. Refute it at one input. -/
def fnCoursesWrong : ChangeSpec := { name := "fnCourses", fn := fun _ => fun
  | [d] => { results := [.lit (.bool false)], args := [d] }
  | _ => none }
def FnCoursesWrongFalsely : Prop := fnCoursesRow.holds Try.pinned (OpenSpec.ofChange fnCoursesWrong)

/- THE SECOND FORM. 'bulk': how many values and letters a reading holds, each counted each time it is reached (what is shared counts as often as it is met; a slice's spare places count too). A statement '..UptoSaid' is the law's where the arguments, and the package variables that the reading takes, are together of bulk at most 1048576: NARROWER than '..Said'. Prove '..Said' where nothing that the law and all that it calls make is longer than what came in: it says more and counts as full. Else prove '..UptoSaid'. A law counts once. -/
mutual
def uptoBulk {H : Type} : DataW H → Nat
  | .lit (.string bytes) => bytes.length + 1
  | .lit _ => 1
  | .nil => 1
  | .ptr d => uptoBulk d + 1
  | .slice elems spare => uptoBulkAll elems + uptoBulkAll spare + 1
  | .agg parts => uptoBulkAll parts + 1
  | .iface _ d => uptoBulk d + 1
  | .map entries => uptoBulkEntries entries + 1
  | .held _ => 1
def uptoBulkAll {H : Type} : List (DataW H) → Nat
  | [] => 0
  | d :: r => uptoBulk d + uptoBulkAll r
def uptoBulkEntries {H : Type} : List (Lit × DataW H) → Nat
  | [] => 0
  | x :: r => uptoBulkEntry x + uptoBulkEntries r
def uptoBulkEntry {H : Type} : Lit × DataW H → Nat
  | (.string bytes, d) => bytes.length + uptoBulk d + 1
  | (_, d) => uptoBulk d + 1
 end
def uptoSmall : (H : Type) → List (DataW H) → Bool := fun _ ds => decide (uptoBulkAll ds ≤ 1048576)
def OpenSpec.upto (s : _root_.Go.ChangeSpec) : _root_.Go.OpenSpec := { _root_.Go.OpenSpec.ofChange s with cond := some uptoSmall }

/-- 'laws.FnExactLengthOfCourse', WHERE WHAT IT READS IS OF BULK AT MOST 1048576: true; the input reads as it did. -/
def fnExactLengthOfCourseUptoRow : OpenClaim := { program := "ytelbedmfnmjehaa", sum := "3b4d690e8405d9002e60efee029d835232323aa6d6f426ad17de16a456382874", func := "loop.example/g01064/laws.FnExactLengthOfCourse", spec := "fnExactLengthOfCourse", apart := false, narrowed := true }
def FnExactLengthOfCourseUptoSaid : Prop := fnExactLengthOfCourseUptoRow.holds Try.pinned (OpenSpec.upto fnExactLengthOfCourseSpec)

/-- 'laws.FnExactCoursesFor', WHERE WHAT IT READS IS OF BULK AT MOST 1048576: true; the input reads as it did. -/
def fnExactCoursesForUptoRow : OpenClaim := { program := "ytelbedmfnmjehaa", sum := "3b4d690e8405d9002e60efee029d835232323aa6d6f426ad17de16a456382874", func := "loop.example/g01064/laws.FnExactCoursesFor", spec := "fnExactCoursesFor", apart := false, narrowed := true }
def FnExactCoursesForUptoSaid : Prop := fnExactCoursesForUptoRow.holds Try.pinned (OpenSpec.upto fnExactCoursesForSpec)

/-- 'laws.FnExactRodsFor', WHERE WHAT IT READS IS OF BULK AT MOST 1048576: true; the input reads as it did. -/
def fnExactRodsForUptoRow : OpenClaim := { program := "ytelbedmfnmjehaa", sum := "3b4d690e8405d9002e60efee029d835232323aa6d6f426ad17de16a456382874", func := "loop.example/g01064/laws.FnExactRodsFor", spec := "fnExactRodsFor", apart := false, narrowed := true }
def FnExactRodsForUptoSaid : Prop := fnExactRodsForUptoRow.holds Try.pinned (OpenSpec.upto fnExactRodsForSpec)

/-- 'laws.FnExactSameCourses', WHERE WHAT IT READS IS OF BULK AT MOST 1048576: true; the input reads as it did. -/
def fnExactSameCoursesUptoRow : OpenClaim := { program := "ytelbedmfnmjehaa", sum := "3b4d690e8405d9002e60efee029d835232323aa6d6f426ad17de16a456382874", func := "loop.example/g01064/laws.FnExactSameCourses", spec := "fnExactSameCourses", apart := false, narrowed := true }
def FnExactSameCoursesUptoSaid : Prop := fnExactSameCoursesUptoRow.holds Try.pinned (OpenSpec.upto fnExactSameCoursesSpec)

/-- 'laws.FnExactValidCourses', WHERE WHAT IT READS IS OF BULK AT MOST 1048576: true; the input reads as it did. -/
def fnExactValidCoursesUptoRow : OpenClaim := { program := "ytelbedmfnmjehaa", sum := "3b4d690e8405d9002e60efee029d835232323aa6d6f426ad17de16a456382874", func := "loop.example/g01064/laws.FnExactValidCourses", spec := "fnExactValidCourses", apart := false, narrowed := true }
def FnExactValidCoursesUptoSaid : Prop := fnExactValidCoursesUptoRow.holds Try.pinned (OpenSpec.upto fnExactValidCoursesSpec)

/-- 'laws.FnExactThickestCourse', WHERE WHAT IT READS IS OF BULK AT MOST 1048576: true; the input reads as it did. -/
def fnExactThickestCourseUptoRow : OpenClaim := { program := "ytelbedmfnmjehaa", sum := "3b4d690e8405d9002e60efee029d835232323aa6d6f426ad17de16a456382874", func := "loop.example/g01064/laws.FnExactThickestCourse", spec := "fnExactThickestCourse", apart := false, narrowed := true }
def FnExactThickestCourseUptoSaid : Prop := fnExactThickestCourseUptoRow.holds Try.pinned (OpenSpec.upto fnExactThickestCourseSpec)

/-- 'laws.FnExactLengthOfAll', WHERE WHAT IT READS IS OF BULK AT MOST 1048576: true; the input reads as it did. -/
def fnExactLengthOfAllUptoRow : OpenClaim := { program := "ytelbedmfnmjehaa", sum := "3b4d690e8405d9002e60efee029d835232323aa6d6f426ad17de16a456382874", func := "loop.example/g01064/laws.FnExactLengthOfAll", spec := "fnExactLengthOfAll", apart := false, narrowed := true }
def FnExactLengthOfAllUptoSaid : Prop := fnExactLengthOfAllUptoRow.holds Try.pinned (OpenSpec.upto fnExactLengthOfAllSpec)

/-- 'laws.FnExactHeightOfCourses', WHERE WHAT IT READS IS OF BULK AT MOST 1048576: true; the input reads as it did. -/
def fnExactHeightOfCoursesUptoRow : OpenClaim := { program := "ytelbedmfnmjehaa", sum := "3b4d690e8405d9002e60efee029d835232323aa6d6f426ad17de16a456382874", func := "loop.example/g01064/laws.FnExactHeightOfCourses", spec := "fnExactHeightOfCourses", apart := false, narrowed := true }
def FnExactHeightOfCoursesUptoSaid : Prop := fnExactHeightOfCoursesUptoRow.holds Try.pinned (OpenSpec.upto fnExactHeightOfCoursesSpec)

/-- 'laws.FnExactHeightAt', WHERE WHAT IT READS IS OF BULK AT MOST 1048576: true; the input reads as it did. -/
def fnExactHeightAtUptoRow : OpenClaim := { program := "ytelbedmfnmjehaa", sum := "3b4d690e8405d9002e60efee029d835232323aa6d6f426ad17de16a456382874", func := "loop.example/g01064/laws.FnExactHeightAt", spec := "fnExactHeightAt", apart := false, narrowed := true }
def FnExactHeightAtUptoSaid : Prop := fnExactHeightAtUptoRow.holds Try.pinned (OpenSpec.upto fnExactHeightAtSpec)

/-- 'laws.FnWeavers', WHERE WHAT IT READS IS OF BULK AT MOST 1048576: true; the input reads as it did. -/
def fnWeaversUptoRow : OpenClaim := { program := "ytelbedmfnmjehaa", sum := "3b4d690e8405d9002e60efee029d835232323aa6d6f426ad17de16a456382874", func := "loop.example/g01064/laws.FnWeavers", spec := "fnWeavers", apart := false, narrowed := true }
def FnWeaversUptoSaid : Prop := fnWeaversUptoRow.holds Try.pinned (OpenSpec.upto fnWeaversSpec)

/-- 'laws.FnCourses', WHERE WHAT IT READS IS OF BULK AT MOST 1048576: true; the input reads as it did. -/
def fnCoursesUptoRow : OpenClaim := { program := "ytelbedmfnmjehaa", sum := "3b4d690e8405d9002e60efee029d835232323aa6d6f426ad17de16a456382874", func := "loop.example/g01064/laws.FnCourses", spec := "fnCourses", apart := false, narrowed := true }
def FnCoursesUptoSaid : Prop := fnCoursesUptoRow.holds Try.pinned (OpenSpec.upto fnCoursesSpec)

end Rows
end Go.Proofs.Ytelbedmfnmjehaa
