/-
  No cell of these rows narrows 'for every input' (looked for: loops, veiled, ifaces, maps, wideKeys, modest, calm, conditions, laid).
  DERIVED. THE GIVEN ROWS OF THIS SEAT. 4 by the template 'for every input the law returns true; each argument reads behind the call as it read before'; 0 by the template 'total and deterministic' (their statements: YtlomodjpgjlagaaGreatTotals.lean).
  GIVEN WITH THE SEED: the statements are not yours to turn. If you find one false, say at which input.
  Laid BY PROGRAM, IN A SANDBOX (cutbox-rows.mjs): the forced cells as the released guide's own fill.sh prints them over the translation 7a419a06d6b99ba0… (all of the seat's roots in one cut). By AI agents, Wed Nov 11 2026. No macro, syntax, notation, axiom, sorry.
-/
import Derived.Test.YtlomodjpgjlagaaGreatChecked
import GoSem.Claim
import GoSem.ClaimJoined
import GoSem.ClaimMapViews
import Derived.JoinedTies
import Derived.KernelRfl
namespace Go.Proofs.YtlomodjpgjlagaaGreat
/- THE CELL 'sum', in the pinned program and in every row, IS THE sha256 OF THE DUMP (.gsa) THAT YtlomodjpgjlagaaGreatProg.lean LOADS. Nothing in Lean hashes anything: it is a label: what it is worth is what the hold of that sum in a sandbox is worth. -/
noncomputable def Tryz.pinned : Pinned := { name := "ytlomodjpgjlagaagreat", sum := "7a419a06d6b99ba0b3fc83de0d956378193c177f478e7e12b5cfc70ee1da7f10", checked := Tryz.checked }
namespace Rows
def none {H : Type} : Left H := { results := [], args := [] }

/-- 'laws.FnCrewStuck': WHATEVER THE INPUT: true; the input reads as it did. -/
def fnCrewStuckSpec : ChangeSpec := { name := "fnCrewStuck", fn := fun _ => fun
  | [d] => { results := [.lit (.bool true)], args := [d] }
  | _ => none }
def fnCrewStuckRow : OpenClaim := { program := "ytlomodjpgjlagaagreat", sum := "7a419a06d6b99ba0b3fc83de0d956378193c177f478e7e12b5cfc70ee1da7f10", func := "loop.example/teagle/laws.FnCrewStuck", spec := "fnCrewStuck", unfollowed := true, recurses := true, apart := false }
def FnCrewStuckSaid : Prop := fnCrewStuckRow.holds Tryz.pinned (OpenSpec.ofChange fnCrewStuckSpec)

/-- ITS FALSE NEIGHBOUR: 'it returns false'. Refute it at one input. -/
def fnCrewStuckWrong : ChangeSpec := { name := "fnCrewStuck", fn := fun _ => fun
  | [d] => { results := [.lit (.bool false)], args := [d] }
  | _ => none }
def FnCrewStuckWrongFalsely : Prop := fnCrewStuckRow.holds Tryz.pinned (OpenSpec.ofChange fnCrewStuckWrong)

/-- 'laws.FnCrewEnd': WHATEVER THE INPUT: true; the input reads as it did. -/
def fnCrewEndSpec : ChangeSpec := { name := "fnCrewEnd", fn := fun _ => fun
  | [d1, d2] => { results := [.lit (.bool true)], args := [d1, d2] }
  | _ => none }
def fnCrewEndRow : OpenClaim := { program := "ytlomodjpgjlagaagreat", sum := "7a419a06d6b99ba0b3fc83de0d956378193c177f478e7e12b5cfc70ee1da7f10", func := "loop.example/teagle/laws.FnCrewEnd", spec := "fnCrewEnd", unfollowed := true, recurses := true, apart := false }
def FnCrewEndSaid : Prop := fnCrewEndRow.holds Tryz.pinned (OpenSpec.ofChange fnCrewEndSpec)

/-- ITS FALSE NEIGHBOUR: 'it returns false'. Refute it at one input. -/
def fnCrewEndWrong : ChangeSpec := { name := "fnCrewEnd", fn := fun _ => fun
  | [d1, d2] => { results := [.lit (.bool false)], args := [d1, d2] }
  | _ => none }
def FnCrewEndWrongFalsely : Prop := fnCrewEndRow.holds Tryz.pinned (OpenSpec.ofChange fnCrewEndWrong)

/-- 'laws.FnCrewCancel': WHATEVER THE INPUT: true; the input reads as it did. -/
def fnCrewCancelSpec : ChangeSpec := { name := "fnCrewCancel", fn := fun _ => fun
  | [d1, d2] => { results := [.lit (.bool true)], args := [d1, d2] }
  | _ => none }
def fnCrewCancelRow : OpenClaim := { program := "ytlomodjpgjlagaagreat", sum := "7a419a06d6b99ba0b3fc83de0d956378193c177f478e7e12b5cfc70ee1da7f10", func := "loop.example/teagle/laws.FnCrewCancel", spec := "fnCrewCancel", unfollowed := true, recurses := true, apart := false }
def FnCrewCancelSaid : Prop := fnCrewCancelRow.holds Tryz.pinned (OpenSpec.ofChange fnCrewCancelSpec)

/-- ITS FALSE NEIGHBOUR: 'it returns false'. Refute it at one input. -/
def fnCrewCancelWrong : ChangeSpec := { name := "fnCrewCancel", fn := fun _ => fun
  | [d1, d2] => { results := [.lit (.bool false)], args := [d1, d2] }
  | _ => none }
def FnCrewCancelWrongFalsely : Prop := fnCrewCancelRow.holds Tryz.pinned (OpenSpec.ofChange fnCrewCancelWrong)

/-- 'laws.FnExactCrewStep': WHATEVER THE INPUT: true; the input reads as it did. -/
def fnExactCrewStepSpec : ChangeSpec := { name := "fnExactCrewStep", fn := fun _ => fun
  | [d1, d2] => { results := [.lit (.bool true)], args := [d1, d2] }
  | _ => none }
def fnExactCrewStepRow : OpenClaim := { program := "ytlomodjpgjlagaagreat", sum := "7a419a06d6b99ba0b3fc83de0d956378193c177f478e7e12b5cfc70ee1da7f10", func := "loop.example/teagle/laws.FnExactCrewStep", spec := "fnExactCrewStep", unfollowed := true, recurses := true, apart := false }
def FnExactCrewStepSaid : Prop := fnExactCrewStepRow.holds Tryz.pinned (OpenSpec.ofChange fnExactCrewStepSpec)

/-- ITS FALSE NEIGHBOUR: 'it returns false'. Refute it at one input. -/
def fnExactCrewStepWrong : ChangeSpec := { name := "fnExactCrewStep", fn := fun _ => fun
  | [d1, d2] => { results := [.lit (.bool false)], args := [d1, d2] }
  | _ => none }
def FnExactCrewStepWrongFalsely : Prop := fnExactCrewStepRow.holds Tryz.pinned (OpenSpec.ofChange fnExactCrewStepWrong)

/- THE SECOND FORM. 'bulk': how many values and letters a reading holds, each counted each time it is reached (what is shared counts as often as it is met; a slice's spare places count too). A statement '..UptoSaid' is the law's where the arguments, and the package variables that the reading takes, are together of bulk at most 1048576: NARROWER than '..Said'. Prove '..Said' where nothing that the law and all that it calls make is longer than what came in: it says more and counts as full. Else prove '..UptoSaid'. A law counts once. -/
mutual
def uptoBulk {H : Type} : DataW H → Nat
  | .lit (.string bytes) => bytes.length + 1
  | .lit _ => 1
  | .nil => 1
  | .ptr d => uptoBulk d + 1
  | .slice elems spare => uptoBulkAll elems + uptoBulkAll spare + 1
  | .agg parts => uptoBulkAll parts + 1
  | .iface _ d => uptoBulk d + 1
  | .map entries => uptoBulkEntries entries + 1
  | .held _ => 1
def uptoBulkAll {H : Type} : List (DataW H) → Nat
  | [] => 0
  | d :: r => uptoBulk d + uptoBulkAll r
def uptoBulkEntries {H : Type} : List (Lit × DataW H) → Nat
  | [] => 0
  | x :: r => uptoBulkEntry x + uptoBulkEntries r
def uptoBulkEntry {H : Type} : Lit × DataW H → Nat
  | (.string bytes, d) => bytes.length + uptoBulk d + 1
  | (_, d) => uptoBulk d + 1
 end
def uptoSmall : (H : Type) → List (DataW H) → Bool := fun _ ds => decide (uptoBulkAll ds ≤ 1048576)
def OpenSpec.upto (s : _root_.Go.ChangeSpec) : _root_.Go.OpenSpec := { _root_.Go.OpenSpec.ofChange s with cond := some uptoSmall }

/-- 'laws.FnCrewStuck', WHERE WHAT IT READS IS OF BULK AT MOST 1048576: true; the input reads as it did. -/
def fnCrewStuckUptoRow : OpenClaim := { program := "ytlomodjpgjlagaagreat", sum := "7a419a06d6b99ba0b3fc83de0d956378193c177f478e7e12b5cfc70ee1da7f10", func := "loop.example/teagle/laws.FnCrewStuck", spec := "fnCrewStuck", unfollowed := true, recurses := true, apart := false, narrowed := true }
def FnCrewStuckUptoSaid : Prop := fnCrewStuckUptoRow.holds Tryz.pinned (OpenSpec.upto fnCrewStuckSpec)

/-- 'laws.FnCrewEnd', WHERE WHAT IT READS IS OF BULK AT MOST 1048576: true; the input reads as it did. -/
def fnCrewEndUptoRow : OpenClaim := { program := "ytlomodjpgjlagaagreat", sum := "7a419a06d6b99ba0b3fc83de0d956378193c177f478e7e12b5cfc70ee1da7f10", func := "loop.example/teagle/laws.FnCrewEnd", spec := "fnCrewEnd", unfollowed := true, recurses := true, apart := false, narrowed := true }
def FnCrewEndUptoSaid : Prop := fnCrewEndUptoRow.holds Tryz.pinned (OpenSpec.upto fnCrewEndSpec)

/-- 'laws.FnCrewCancel', WHERE WHAT IT READS IS OF BULK AT MOST 1048576: true; the input reads as it did. -/
def fnCrewCancelUptoRow : OpenClaim := { program := "ytlomodjpgjlagaagreat", sum := "7a419a06d6b99ba0b3fc83de0d956378193c177f478e7e12b5cfc70ee1da7f10", func := "loop.example/teagle/laws.FnCrewCancel", spec := "fnCrewCancel", unfollowed := true, recurses := true, apart := false, narrowed := true }
def FnCrewCancelUptoSaid : Prop := fnCrewCancelUptoRow.holds Tryz.pinned (OpenSpec.upto fnCrewCancelSpec)

/-- 'laws.FnExactCrewStep', WHERE WHAT IT READS IS OF BULK AT MOST 1048576: true; the input reads as it did. -/
def fnExactCrewStepUptoRow : OpenClaim := { program := "ytlomodjpgjlagaagreat", sum := "7a419a06d6b99ba0b3fc83de0d956378193c177f478e7e12b5cfc70ee1da7f10", func := "loop.example/teagle/laws.FnExactCrewStep", spec := "fnExactCrewStep", unfollowed := true, recurses := true, apart := false, narrowed := true }
def FnExactCrewStepUptoSaid : Prop := fnExactCrewStepUptoRow.holds Tryz.pinned (OpenSpec.upto fnExactCrewStepSpec)

end Rows
end Go.Proofs.YtlomodjpgjlagaaGreat
