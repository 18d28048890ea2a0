/-
  DERIVED. GIVEN WITH THE SEED: THE CARDS: each row of YtfgbplbohekghaaDoorRows.lean that lists a variable, with what it lists TIED to the program's text (the seventh form; the later family's looks); each row that meets fmt, with fmt's text TOLD by the authors' own Lean function (tested against real Go, not proved from fmt's source: count such statements apart). THE CARD IS WHAT COUNTS. Prove the row's statement (the work); the ties are given (YtfgbplbohekghaaDoorTie.lean); close each card by the builder's one call (the guide's Derived/Test/ToyasCard.lean, 'card_holds'). Laid BY PROGRAM, IN A SANDBOX (cutbox-door.mjs). By AI agents, Wed Nov 11 2026. No macro, syntax, notation, axiom, sorry.
-/
import Derived.Test.YtfgbplbohekghaaDoorRows
import GoSem.ClaimSeven
namespace Go.Proofs.YtfgbplbohekghaaDoor
namespace Rows

/-- THE TIED CARD OF 'weirlaw6.LsmLast'. -/
def lsmLastCard : Claim7 := { stood := { row := lsmLastRow, standIns := [], harness := (true, "61f1a2aa9fd12f210c60ea7419f5db64a64f98e975ef9e134e2dceef77294db9"), looks := true }, kinds := [], alts := [], laidByText := true, laidKinds := [.handle], laidTests := true, laidLooks := .later }
def LsmLastCardSaid : Prop := Claim7.holds Tryd.pinned (.plain (OpenSpec.ofChange lsmLastSpec)) lsmLastCard

/-- THE SECOND FORM's CARD OF 'weirlaw6.LsmLast'. -/
def lsmLastUptoCard : Claim7 := { stood := { row := lsmLastUptoRow, standIns := [], harness := (true, "61f1a2aa9fd12f210c60ea7419f5db64a64f98e975ef9e134e2dceef77294db9"), looks := true }, kinds := [], alts := [], laidByText := true, laidKinds := [.handle], laidTests := true, laidLooks := .later }
def LsmLastUptoCardSaid : Prop := Claim7.holds Tryd.pinned (.plain (OpenSpec.upto lsmLastSpec)) lsmLastUptoCard
end Rows
end Go.Proofs.YtfgbplbohekghaaDoor
