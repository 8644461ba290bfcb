/-
  No cell of these rows narrows 'for every input' (looked for: loops, veiled, ifaces, maps, wideKeys, modest, calm, conditions, laid).
  DERIVED. THE GIVEN ROWS OF THIS SEAT. 2 by the template 'for every input the law returns true; each argument reads behind the call as it read before'; 0 by the template 'total and deterministic' (their statements: YtlajnafcfngkaaaTotals.lean).
  GIVEN WITH THE SEED: the statements are not yours to turn. If you find one false, say at which input.
  Laid BY PROGRAM, IN A SANDBOX (cutbox-rows.mjs): the forced cells as the released guide's own fill.sh prints them over the translation c5b8a6f63d690f61… (all of the seat's roots in one cut). By AI agents, Wed Nov 11 2026. No macro, syntax, notation, axiom, sorry.
-/
import Derived.Test.YtlajnafcfngkaaaChecked
import GoSem.Claim
import GoSem.ClaimJoined
import GoSem.ClaimMapViews
import Derived.JoinedTies
import Derived.KernelRfl
namespace Go.Proofs.Ytlajnafcfngkaaa
/- THE CELL 'sum', in the pinned program and in every row, IS THE sha256 OF THE DUMP (.gsa) THAT YtlajnafcfngkaaaProg.lean LOADS. Nothing in Lean hashes anything: it is a label: what it is worth is what the hold of that sum in a sandbox is worth. -/
noncomputable def Try.pinned : Pinned := { name := "ytlajnafcfngkaaa", sum := "c5b8a6f63d690f611b4d0acd313c8df42dfc733903d652121bb3984bb8b24415", checked := Try.checked }
namespace Rows
def none {H : Type} : Left H := { results := [], args := [] }

/-- 'laws.FnExactCrewCancel': WHATEVER THE INPUT: true; the input reads as it did. -/
def fnExactCrewCancelSpec : ChangeSpec := { name := "fnExactCrewCancel", fn := fun _ => fun
  | [d] => { results := [.lit (.bool true)], args := [d] }
  | _ => none }
def fnExactCrewCancelRow : OpenClaim := { program := "ytlajnafcfngkaaa", sum := "c5b8a6f63d690f611b4d0acd313c8df42dfc733903d652121bb3984bb8b24415", func := "loop.example/teagle/laws.FnExactCrewCancel", spec := "fnExactCrewCancel", unfollowed := true, recurses := true, apart := false }
def FnExactCrewCancelSaid : Prop := fnExactCrewCancelRow.holds Try.pinned (OpenSpec.ofChange fnExactCrewCancelSpec)

/-- ITS FALSE NEIGHBOUR: 'it returns false'. Refute it at one input. -/
def fnExactCrewCancelWrong : ChangeSpec := { name := "fnExactCrewCancel", fn := fun _ => fun
  | [d] => { results := [.lit (.bool false)], args := [d] }
  | _ => none }
def FnExactCrewCancelWrongFalsely : Prop := fnExactCrewCancelRow.holds Try.pinned (OpenSpec.ofChange fnExactCrewCancelWrong)

/-- 'laws.FnCrewStep': WHATEVER THE INPUT: true; the input reads as it did. -/
def fnCrewStepSpec : ChangeSpec := { name := "fnCrewStep", fn := fun _ => fun
  | [d] => { results := [.lit (.bool true)], args := [d] }
  | _ => none }
def fnCrewStepRow : OpenClaim := { program := "ytlajnafcfngkaaa", sum := "c5b8a6f63d690f611b4d0acd313c8df42dfc733903d652121bb3984bb8b24415", func := "loop.example/teagle/laws.FnCrewStep", spec := "fnCrewStep", unfollowed := true, recurses := true, apart := false }
def FnCrewStepSaid : Prop := fnCrewStepRow.holds Try.pinned (OpenSpec.ofChange fnCrewStepSpec)

/-- ITS FALSE NEIGHBOUR: 'it returns false'. Refute it at one input. -/
def fnCrewStepWrong : ChangeSpec := { name := "fnCrewStep", fn := fun _ => fun
  | [d] => { results := [.lit (.bool false)], args := [d] }
  | _ => none }
def FnCrewStepWrongFalsely : Prop := fnCrewStepRow.holds Try.pinned (OpenSpec.ofChange fnCrewStepWrong)

/- THE SECOND FORM. 'bulk': how many values and letters a reading holds, each counted each time it is reached (what is shared counts as often as it is met; a slice's spare places count too). A statement '..UptoSaid' is the law's where the arguments, and the package variables that the reading takes, are together of bulk at most 1048576: NARROWER than '..Said'. Prove '..Said' where nothing that the law and all that it calls make is longer than what came in: it says more and counts as full. Else prove '..UptoSaid'. A law counts once. -/
mutual
def uptoBulk {H : Type} : DataW H → Nat
  | .lit (.string bytes) => bytes.length + 1
  | .lit _ => 1
  | .nil => 1
  | .ptr d => uptoBulk d + 1
  | .slice elems spare => uptoBulkAll elems + uptoBulkAll spare + 1
  | .agg parts => uptoBulkAll parts + 1
  | .iface _ d => uptoBulk d + 1
  | .map entries => uptoBulkEntries entries + 1
  | .held _ => 1
def uptoBulkAll {H : Type} : List (DataW H) → Nat
  | [] => 0
  | d :: r => uptoBulk d + uptoBulkAll r
def uptoBulkEntries {H : Type} : List (Lit × DataW H) → Nat
  | [] => 0
  | x :: r => uptoBulkEntry x + uptoBulkEntries r
def uptoBulkEntry {H : Type} : Lit × DataW H → Nat
  | (.string bytes, d) => bytes.length + uptoBulk d + 1
  | (_, d) => uptoBulk d + 1
 end
def uptoSmall : (H : Type) → List (DataW H) → Bool := fun _ ds => decide (uptoBulkAll ds ≤ 1048576)
def OpenSpec.upto (s : _root_.Go.ChangeSpec) : _root_.Go.OpenSpec := { _root_.Go.OpenSpec.ofChange s with cond := some uptoSmall }

/-- 'laws.FnExactCrewCancel', WHERE WHAT IT READS IS OF BULK AT MOST 1048576: true; the input reads as it did. -/
def fnExactCrewCancelUptoRow : OpenClaim := { program := "ytlajnafcfngkaaa", sum := "c5b8a6f63d690f611b4d0acd313c8df42dfc733903d652121bb3984bb8b24415", func := "loop.example/teagle/laws.FnExactCrewCancel", spec := "fnExactCrewCancel", unfollowed := true, recurses := true, apart := false, narrowed := true }
def FnExactCrewCancelUptoSaid : Prop := fnExactCrewCancelUptoRow.holds Try.pinned (OpenSpec.upto fnExactCrewCancelSpec)

/-- 'laws.FnCrewStep', WHERE WHAT IT READS IS OF BULK AT MOST 1048576: true; the input reads as it did. -/
def fnCrewStepUptoRow : OpenClaim := { program := "ytlajnafcfngkaaa", sum := "c5b8a6f63d690f611b4d0acd313c8df42dfc733903d652121bb3984bb8b24415", func := "loop.example/teagle/laws.FnCrewStep", spec := "fnCrewStep", unfollowed := true, recurses := true, apart := false, narrowed := true }
def FnCrewStepUptoSaid : Prop := fnCrewStepUptoRow.holds Try.pinned (OpenSpec.upto fnCrewStepSpec)

end Rows
end Go.Proofs.Ytlajnafcfngkaaa
