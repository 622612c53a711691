/-
  DERIVED. GIVEN WITH THE SEED: THE CARDS: each row of YtmchbkjjpeiedaaDoorRows.lean that lists a variable, with what it lists TIED to the program's text (the seventh form; the later family's looks); each row that meets fmt, with fmt's text TOLD by the authors' own Lean function (tested against real Go, not proved from fmt's source: count such statements apart). THE CARD IS WHAT COUNTS. Prove the row's statement (the work); the ties are given (YtmchbkjjpeiedaaDoorTie.lean); close each card by the builder's one call (the guide's Derived/Test/ToyasCard.lean, 'card_holds'). Laid BY PROGRAM, IN A SANDBOX (cutbox-door.mjs). By AI agents, Wed Nov 11 2026. No macro, syntax, notation, axiom, sorry.
-/
import Derived.Test.YtmchbkjjpeiedaaDoorRows
import GoSem.ClaimSeven
namespace Go.Proofs.YtmchbkjjpeiedaaDoor
namespace Rows

/-- THE TIED CARD OF 'laws.FnCoverFormulas'. -/
def fnCoverFormulasCard : Claim7 := { stood := { row := fnCoverFormulasRow, standIns := [], harness := (true, "e8b255fb4ef87089c3ab187ed74f165b34c53e34e0fefa092ed29e8f7538a772"), looks := false }, kinds := [], alts := [], laidByText := true, laidKinds := [.data], laidTests := true, laidLooks := .later }
def FnCoverFormulasCardSaid : Prop := Claim7.holds Tryd.pinned (.plain (OpenSpec.ofChange fnCoverFormulasSpec)) fnCoverFormulasCard

/-- THE TIED CARD OF 'laws.FnRolled'. -/
def fnRolledCard : Claim7 := { stood := { row := fnRolledRow, standIns := [], harness := (true, "e8b255fb4ef87089c3ab187ed74f165b34c53e34e0fefa092ed29e8f7538a772"), looks := false }, kinds := [], alts := [], laidByText := true, laidKinds := [.data, .data, .pinned], laidTests := true, laidLooks := .later }
def FnRolledCardSaid : Prop := Claim7.holds Tryd.pinned (.plain (OpenSpec.ofChange fnRolledSpec)) fnRolledCard

/-- THE TIED CARD OF 'laws.FnNets'. -/
def fnNetsCard : Claim7 := { stood := { row := fnNetsRow, standIns := [], harness := (true, "e8b255fb4ef87089c3ab187ed74f165b34c53e34e0fefa092ed29e8f7538a772"), looks := false }, kinds := [], alts := [], laidByText := true, laidKinds := [.data], laidTests := true, laidLooks := .later }
def FnNetsCardSaid : Prop := Claim7.holds Tryd.pinned (.plain (OpenSpec.ofChange fnNetsSpec)) fnNetsCard

/-- THE SECOND FORM's CARD OF 'laws.FnCoverFormulas'. -/
def fnCoverFormulasUptoCard : Claim7 := { stood := { row := fnCoverFormulasUptoRow, standIns := [], harness := (true, "e8b255fb4ef87089c3ab187ed74f165b34c53e34e0fefa092ed29e8f7538a772"), looks := false }, kinds := [], alts := [], laidByText := true, laidKinds := [.data], laidTests := true, laidLooks := .later }
def FnCoverFormulasUptoCardSaid : Prop := Claim7.holds Tryd.pinned (.plain (OpenSpec.upto fnCoverFormulasSpec)) fnCoverFormulasUptoCard

/-- THE SECOND FORM's CARD OF 'laws.FnRolled'. -/
def fnRolledUptoCard : Claim7 := { stood := { row := fnRolledUptoRow, standIns := [], harness := (true, "e8b255fb4ef87089c3ab187ed74f165b34c53e34e0fefa092ed29e8f7538a772"), looks := false }, kinds := [], alts := [], laidByText := true, laidKinds := [.data, .data, .pinned], laidTests := true, laidLooks := .later }
def FnRolledUptoCardSaid : Prop := Claim7.holds Tryd.pinned (.plain (OpenSpec.upto fnRolledSpec)) fnRolledUptoCard

/-- THE SECOND FORM's CARD OF 'laws.FnNets'. -/
def fnNetsUptoCard : Claim7 := { stood := { row := fnNetsUptoRow, standIns := [], harness := (true, "e8b255fb4ef87089c3ab187ed74f165b34c53e34e0fefa092ed29e8f7538a772"), looks := false }, kinds := [], alts := [], laidByText := true, laidKinds := [.data], laidTests := true, laidLooks := .later }
def FnNetsUptoCardSaid : Prop := Claim7.holds Tryd.pinned (.plain (OpenSpec.upto fnNetsSpec)) fnNetsUptoCard
end Rows
end Go.Proofs.YtmchbkjjpeiedaaDoor
