/-
  DERIVED. GIVEN WITH THE SEED: THE CARDS: each row of YtcdjbfgkajfnlaaDoorRows.lean that lists a variable, with what it lists TIED to the program's text (the seventh form; the later family's looks); each row that meets fmt, with fmt's text TOLD by the authors' own Lean function (tested against real Go, not proved from fmt's source: count such statements apart). THE CARD IS WHAT COUNTS. Prove the row's statement (the work); the ties are given (YtcdjbfgkajfnlaaDoorTie.lean); close each card by the builder's one call (the guide's Derived/Test/ToyasCard.lean, 'card_holds'). Laid BY PROGRAM, IN A SANDBOX (cutbox-door.mjs). By AI agents, Wed Nov 11 2026. No macro, syntax, notation, axiom, sorry.
-/
import Derived.Test.YtcdjbfgkajfnlaaDoorRows
import GoSem.ClaimSeven
namespace Go.Proofs.YtcdjbfgkajfnlaaDoor
namespace Rows

/-- THE TIED CARD OF 'drydocklaw10.DeltaReads'. -/
def deltaReadsCard : Claim7 := { stood := { row := deltaReadsRow, standIns := [], harness := (true, "334889e20b1dc4cd947025edcec8942802526817d25b83b703d45acedd91f286"), looks := true }, kinds := [], alts := [], laidByText := true, laidKinds := [.handle], laidTests := true, laidLooks := .later }
def DeltaReadsCardSaid : Prop := Claim7.holds Tryd.pinned (.plain (OpenSpec.ofChange deltaReadsSpec)) deltaReadsCard

/-- THE TIED CARD OF 'drydocklaw10.DeltaApplies'. -/
def deltaAppliesCard : Claim7 := { stood := { row := deltaAppliesRow, standIns := [], harness := (true, "334889e20b1dc4cd947025edcec8942802526817d25b83b703d45acedd91f286"), looks := true }, kinds := [], alts := [], laidByText := true, laidKinds := [.handle], laidTests := true, laidLooks := .later }
def DeltaAppliesCardSaid : Prop := Claim7.holds Tryd.pinned (.plain (OpenSpec.ofChange deltaAppliesSpec)) deltaAppliesCard

/-- THE TIED CARD OF 'drydocklaw10.DeltaCodes'. -/
def deltaCodesCard : Claim7 := { stood := { row := deltaCodesRow, standIns := [], harness := (true, "334889e20b1dc4cd947025edcec8942802526817d25b83b703d45acedd91f286"), looks := true }, kinds := [], alts := [], laidByText := true, laidKinds := [.handle], laidTests := true, laidLooks := .later }
def DeltaCodesCardSaid : Prop := Claim7.holds Tryd.pinned (.plain (OpenSpec.ofChange deltaCodesSpec)) deltaCodesCard

/-- THE SECOND FORM's CARD OF 'drydocklaw10.DeltaReads'. -/
def deltaReadsUptoCard : Claim7 := { stood := { row := deltaReadsUptoRow, standIns := [], harness := (true, "334889e20b1dc4cd947025edcec8942802526817d25b83b703d45acedd91f286"), looks := true }, kinds := [], alts := [], laidByText := true, laidKinds := [.handle], laidTests := true, laidLooks := .later }
def DeltaReadsUptoCardSaid : Prop := Claim7.holds Tryd.pinned (.plain (OpenSpec.upto deltaReadsSpec)) deltaReadsUptoCard

/-- THE SECOND FORM's CARD OF 'drydocklaw10.DeltaApplies'. -/
def deltaAppliesUptoCard : Claim7 := { stood := { row := deltaAppliesUptoRow, standIns := [], harness := (true, "334889e20b1dc4cd947025edcec8942802526817d25b83b703d45acedd91f286"), looks := true }, kinds := [], alts := [], laidByText := true, laidKinds := [.handle], laidTests := true, laidLooks := .later }
def DeltaAppliesUptoCardSaid : Prop := Claim7.holds Tryd.pinned (.plain (OpenSpec.upto deltaAppliesSpec)) deltaAppliesUptoCard

/-- THE SECOND FORM's CARD OF 'drydocklaw10.DeltaCodes'. -/
def deltaCodesUptoCard : Claim7 := { stood := { row := deltaCodesUptoRow, standIns := [], harness := (true, "334889e20b1dc4cd947025edcec8942802526817d25b83b703d45acedd91f286"), looks := true }, kinds := [], alts := [], laidByText := true, laidKinds := [.handle], laidTests := true, laidLooks := .later }
def DeltaCodesUptoCardSaid : Prop := Claim7.holds Tryd.pinned (.plain (OpenSpec.upto deltaCodesSpec)) deltaCodesUptoCard
end Rows
end Go.Proofs.YtcdjbfgkajfnlaaDoor
