/-
  DERIVED. GIVEN WITH THE SEED: THE CARDS: each row of YtgikebkgihcogaaDoorRows.lean that lists a variable, with what it lists TIED to the program's text (the seventh form; the later family's looks); each row that meets fmt, with fmt's text TOLD by the authors' own Lean function (tested against real Go, not proved from fmt's source: count such statements apart). THE CARD IS WHAT COUNTS. Prove the row's statement (the work); the ties are given (YtgikebkgihcogaaDoorTie.lean); close each card by the builder's one call (the guide's Derived/Test/ToyasCard.lean, 'card_holds'). Laid BY PROGRAM, IN A SANDBOX (cutbox-door.mjs). By AI agents, Wed Nov 11 2026. No macro, syntax, notation, axiom, sorry.
-/
import Derived.Test.YtgikebkgihcogaaDoorRows
import GoSem.ClaimSeven
namespace Go.Proofs.YtgikebkgihcogaaDoor
namespace Rows

/-- THE TIED CARD OF 'weathercocklaw12.SignTells'. -/
def signTellsCard : Claim7 := { stood := { row := signTellsRow, standIns := [], harness := (true, "d8dd98f01780e7a607fa98ba6ec131ed44af996dc6675f35981d80659d3f8d91"), looks := false }, kinds := [], alts := [], laidByText := true, laidKinds := [.data, .data, .data], laidTests := true, laidLooks := .later }
def SignTellsCardSaid : Prop := Claim7.holds Tryd.pinned (.plain (OpenSpec.ofChange signTellsSpec)) signTellsCard

/-- THE TIED CARD OF 'weathercocklaw12.SignAgain'. -/
def signAgainCard : Claim7 := { stood := { row := signAgainRow, standIns := [], harness := (true, "d8dd98f01780e7a607fa98ba6ec131ed44af996dc6675f35981d80659d3f8d91"), looks := false }, kinds := [], alts := [], laidByText := true, laidKinds := [.data, .data, .data], laidTests := true, laidLooks := .later }
def SignAgainCardSaid : Prop := Claim7.holds Tryd.pinned (.plain (OpenSpec.ofChange signAgainSpec)) signAgainCard

/-- THE TIED CARD OF 'weathercocklaw12.SignWays'. -/
def signWaysCard : Claim7 := { stood := { row := signWaysRow, standIns := [], harness := (true, "d8dd98f01780e7a607fa98ba6ec131ed44af996dc6675f35981d80659d3f8d91"), looks := false }, kinds := [], alts := [], laidByText := true, laidKinds := [.data, .data, .data], laidTests := true, laidLooks := .later }
def SignWaysCardSaid : Prop := Claim7.holds Tryd.pinned (.plain (OpenSpec.ofChange signWaysSpec)) signWaysCard

/-- THE TIED CARD OF 'weathercocklaw12.SignRanks'. -/
def signRanksCard : Claim7 := { stood := { row := signRanksRow, standIns := [], harness := (true, "d8dd98f01780e7a607fa98ba6ec131ed44af996dc6675f35981d80659d3f8d91"), looks := false }, kinds := [], alts := [], laidByText := true, laidKinds := [.data, .data, .data], laidTests := true, laidLooks := .later }
def SignRanksCardSaid : Prop := Claim7.holds Tryd.pinned (.plain (OpenSpec.ofChange signRanksSpec)) signRanksCard

/-- THE SECOND FORM's CARD OF 'weathercocklaw12.SignTells'. -/
def signTellsUptoCard : Claim7 := { stood := { row := signTellsUptoRow, standIns := [], harness := (true, "d8dd98f01780e7a607fa98ba6ec131ed44af996dc6675f35981d80659d3f8d91"), looks := false }, kinds := [], alts := [], laidByText := true, laidKinds := [.data, .data, .data], laidTests := true, laidLooks := .later }
def SignTellsUptoCardSaid : Prop := Claim7.holds Tryd.pinned (.plain (OpenSpec.upto signTellsSpec)) signTellsUptoCard

/-- THE SECOND FORM's CARD OF 'weathercocklaw12.SignAgain'. -/
def signAgainUptoCard : Claim7 := { stood := { row := signAgainUptoRow, standIns := [], harness := (true, "d8dd98f01780e7a607fa98ba6ec131ed44af996dc6675f35981d80659d3f8d91"), looks := false }, kinds := [], alts := [], laidByText := true, laidKinds := [.data, .data, .data], laidTests := true, laidLooks := .later }
def SignAgainUptoCardSaid : Prop := Claim7.holds Tryd.pinned (.plain (OpenSpec.upto signAgainSpec)) signAgainUptoCard

/-- THE SECOND FORM's CARD OF 'weathercocklaw12.SignWays'. -/
def signWaysUptoCard : Claim7 := { stood := { row := signWaysUptoRow, standIns := [], harness := (true, "d8dd98f01780e7a607fa98ba6ec131ed44af996dc6675f35981d80659d3f8d91"), looks := false }, kinds := [], alts := [], laidByText := true, laidKinds := [.data, .data, .data], laidTests := true, laidLooks := .later }
def SignWaysUptoCardSaid : Prop := Claim7.holds Tryd.pinned (.plain (OpenSpec.upto signWaysSpec)) signWaysUptoCard

/-- THE SECOND FORM's CARD OF 'weathercocklaw12.SignRanks'. -/
def signRanksUptoCard : Claim7 := { stood := { row := signRanksUptoRow, standIns := [], harness := (true, "d8dd98f01780e7a607fa98ba6ec131ed44af996dc6675f35981d80659d3f8d91"), looks := false }, kinds := [], alts := [], laidByText := true, laidKinds := [.data, .data, .data], laidTests := true, laidLooks := .later }
def SignRanksUptoCardSaid : Prop := Claim7.holds Tryd.pinned (.plain (OpenSpec.upto signRanksSpec)) signRanksUptoCard
end Rows
end Go.Proofs.YtgikebkgihcogaaDoor
