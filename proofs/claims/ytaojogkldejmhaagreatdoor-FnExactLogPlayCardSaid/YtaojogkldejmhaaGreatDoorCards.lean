/-
  DERIVED. GIVEN WITH THE SEED: THE CARDS: each row of YtaojogkldejmhaaGreatDoorRows.lean that lists a variable, with what it lists TIED to the program's text (the seventh form; the later family's looks); each row that meets fmt, with fmt's text TOLD by the authors' own Lean function (tested against real Go, not proved from fmt's source: count such statements apart). THE CARD IS WHAT COUNTS. Prove the row's statement (the work); the ties are given (YtaojogkldejmhaaGreatDoorTie.lean); close each card by the builder's one call (the guide's Derived/Test/ToyasCard.lean, 'card_holds'). Laid BY PROGRAM, IN A SANDBOX (cutbox-door.mjs). By AI agents, Wed Nov 11 2026. No macro, syntax, notation, axiom, sorry.
-/
import Derived.Test.YtaojogkldejmhaaGreatDoorRows
import GoSem.ClaimSeven
namespace Go.Proofs.YtaojogkldejmhaaGreatDoor
namespace Rows

/-- THE TIED CARD OF 'laws.FnLogTop'. -/
def fnLogTopCard : Claim7 := { stood := { row := fnLogTopRow, standIns := [], harness := (true, "eda1890f3523f913acf752080efd92b5c173c5688703da778cf843b9147d0ce5"), looks := true }, kinds := [], alts := [], laidByText := true, laidKinds := [.data, .data, .data, .data, .sentinel, .sentinel, .pinned], laidTests := true, laidLooks := .later }
def FnLogTopCardSaid : Prop := Claim7.holds Tryz.pinned (.plain (OpenSpec.ofChange fnLogTopSpec)) fnLogTopCard

/-- THE TIED CARD OF 'laws.FnLogSame'. -/
def fnLogSameCard : Claim7 := { stood := { row := fnLogSameRow, standIns := [], harness := (true, "eda1890f3523f913acf752080efd92b5c173c5688703da778cf843b9147d0ce5"), looks := true }, kinds := [], alts := [], laidByText := true, laidKinds := [.data, .data, .data, .data, .sentinel, .sentinel, .pinned], laidTests := true, laidLooks := .later }
def FnLogSameCardSaid : Prop := Claim7.holds Tryz.pinned (.plain (OpenSpec.ofChange fnLogSameSpec)) fnLogSameCard

/-- THE TIED CARD OF 'laws.FnLogStep'. -/
def fnLogStepCard : Claim7 := { stood := { row := fnLogStepRow, standIns := [], harness := (true, "eda1890f3523f913acf752080efd92b5c173c5688703da778cf843b9147d0ce5"), looks := true }, kinds := [], alts := [], laidByText := true, laidKinds := [.data, .data, .data, .data, .sentinel, .sentinel, .pinned], laidTests := true, laidLooks := .later }
def FnLogStepCardSaid : Prop := Claim7.holds Tryz.pinned (.plain (OpenSpec.ofChange fnLogStepSpec)) fnLogStepCard

/-- THE TIED CARD OF 'laws.FnLogMend'. -/
def fnLogMendCard : Claim7 := { stood := { row := fnLogMendRow, standIns := [], harness := (true, "eda1890f3523f913acf752080efd92b5c173c5688703da778cf843b9147d0ce5"), looks := true }, kinds := [], alts := [], laidByText := true, laidKinds := [.data, .data, .data, .data, .sentinel, .sentinel, .pinned], laidTests := true, laidLooks := .later }
def FnLogMendCardSaid : Prop := Claim7.holds Tryz.pinned (.plain (OpenSpec.ofChange fnLogMendSpec)) fnLogMendCard

/-- THE TIED CARD OF 'laws.FnExactLogPlay'. -/
def fnExactLogPlayCard : Claim7 := { stood := { row := fnExactLogPlayRow, standIns := [], harness := (true, "eda1890f3523f913acf752080efd92b5c173c5688703da778cf843b9147d0ce5"), looks := true }, kinds := [], alts := [], laidByText := true, laidKinds := [.data, .data, .data, .data, .sentinel, .sentinel, .pinned], laidTests := true, laidLooks := .later }
def FnExactLogPlayCardSaid : Prop := Claim7.holds Tryz.pinned (.plain (OpenSpec.ofChange fnExactLogPlaySpec)) fnExactLogPlayCard

/-- THE TIED CARD OF 'laws.FnExactLogStep'. -/
def fnExactLogStepCard : Claim7 := { stood := { row := fnExactLogStepRow, standIns := [], harness := (true, "eda1890f3523f913acf752080efd92b5c173c5688703da778cf843b9147d0ce5"), looks := true }, kinds := [], alts := [], laidByText := true, laidKinds := [.data, .data, .data, .data, .sentinel, .sentinel, .pinned], laidTests := true, laidLooks := .later }
def FnExactLogStepCardSaid : Prop := Claim7.holds Tryz.pinned (.plain (OpenSpec.ofChange fnExactLogStepSpec)) fnExactLogStepCard

/-- THE SECOND FORM's CARD OF 'laws.FnLogTop'. -/
def fnLogTopUptoCard : Claim7 := { stood := { row := fnLogTopUptoRow, standIns := [], harness := (true, "eda1890f3523f913acf752080efd92b5c173c5688703da778cf843b9147d0ce5"), looks := true }, kinds := [], alts := [], laidByText := true, laidKinds := [.data, .data, .data, .data, .sentinel, .sentinel, .pinned], laidTests := true, laidLooks := .later }
def FnLogTopUptoCardSaid : Prop := Claim7.holds Tryz.pinned (.plain (OpenSpec.upto fnLogTopSpec)) fnLogTopUptoCard

/-- THE SECOND FORM's CARD OF 'laws.FnLogSame'. -/
def fnLogSameUptoCard : Claim7 := { stood := { row := fnLogSameUptoRow, standIns := [], harness := (true, "eda1890f3523f913acf752080efd92b5c173c5688703da778cf843b9147d0ce5"), looks := true }, kinds := [], alts := [], laidByText := true, laidKinds := [.data, .data, .data, .data, .sentinel, .sentinel, .pinned], laidTests := true, laidLooks := .later }
def FnLogSameUptoCardSaid : Prop := Claim7.holds Tryz.pinned (.plain (OpenSpec.upto fnLogSameSpec)) fnLogSameUptoCard

/-- THE SECOND FORM's CARD OF 'laws.FnLogStep'. -/
def fnLogStepUptoCard : Claim7 := { stood := { row := fnLogStepUptoRow, standIns := [], harness := (true, "eda1890f3523f913acf752080efd92b5c173c5688703da778cf843b9147d0ce5"), looks := true }, kinds := [], alts := [], laidByText := true, laidKinds := [.data, .data, .data, .data, .sentinel, .sentinel, .pinned], laidTests := true, laidLooks := .later }
def FnLogStepUptoCardSaid : Prop := Claim7.holds Tryz.pinned (.plain (OpenSpec.upto fnLogStepSpec)) fnLogStepUptoCard

/-- THE SECOND FORM's CARD OF 'laws.FnLogMend'. -/
def fnLogMendUptoCard : Claim7 := { stood := { row := fnLogMendUptoRow, standIns := [], harness := (true, "eda1890f3523f913acf752080efd92b5c173c5688703da778cf843b9147d0ce5"), looks := true }, kinds := [], alts := [], laidByText := true, laidKinds := [.data, .data, .data, .data, .sentinel, .sentinel, .pinned], laidTests := true, laidLooks := .later }
def FnLogMendUptoCardSaid : Prop := Claim7.holds Tryz.pinned (.plain (OpenSpec.upto fnLogMendSpec)) fnLogMendUptoCard

/-- THE SECOND FORM's CARD OF 'laws.FnExactLogPlay'. -/
def fnExactLogPlayUptoCard : Claim7 := { stood := { row := fnExactLogPlayUptoRow, standIns := [], harness := (true, "eda1890f3523f913acf752080efd92b5c173c5688703da778cf843b9147d0ce5"), looks := true }, kinds := [], alts := [], laidByText := true, laidKinds := [.data, .data, .data, .data, .sentinel, .sentinel, .pinned], laidTests := true, laidLooks := .later }
def FnExactLogPlayUptoCardSaid : Prop := Claim7.holds Tryz.pinned (.plain (OpenSpec.upto fnExactLogPlaySpec)) fnExactLogPlayUptoCard

/-- THE SECOND FORM's CARD OF 'laws.FnExactLogStep'. -/
def fnExactLogStepUptoCard : Claim7 := { stood := { row := fnExactLogStepUptoRow, standIns := [], harness := (true, "eda1890f3523f913acf752080efd92b5c173c5688703da778cf843b9147d0ce5"), looks := true }, kinds := [], alts := [], laidByText := true, laidKinds := [.data, .data, .data, .data, .sentinel, .sentinel, .pinned], laidTests := true, laidLooks := .later }
def FnExactLogStepUptoCardSaid : Prop := Claim7.holds Tryz.pinned (.plain (OpenSpec.upto fnExactLogStepSpec)) fnExactLogStepUptoCard
end Rows
end Go.Proofs.YtaojogkldejmhaaGreatDoor
