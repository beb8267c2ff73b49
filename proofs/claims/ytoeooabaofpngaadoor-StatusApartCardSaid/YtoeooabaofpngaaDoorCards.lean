/-
  DERIVED. GIVEN WITH THE SEED: THE CARDS: each row of YtoeooabaofpngaaDoorRows.lean that lists a variable, with what it lists TIED to the program's text (the seventh form; the later family's looks); each row that meets fmt, with fmt's text TOLD by the authors' own Lean function (tested against real Go, not proved from fmt's source: count such statements apart). THE CARD IS WHAT COUNTS. Prove the row's statement (the work); the ties are given (YtoeooabaofpngaaDoorTie.lean); close each card by the builder's one call (the guide's Derived/Test/ToyasCard.lean, 'card_holds'). Laid BY PROGRAM, IN A SANDBOX (cutbox-door.mjs). By AI agents, Wed Nov 11 2026. No macro, syntax, notation, axiom, sorry.
-/
import Derived.Test.YtoeooabaofpngaaDoorRows
import GoSem.ClaimSeven
namespace Go.Proofs.YtoeooabaofpngaaDoor
namespace Rows

/-- THE TIED CARD OF 'scantlinglaw17.StatusPlays'. -/
def statusPlaysCard : Claim7 := { stood := { row := statusPlaysRow, standIns := [], harness := (true, "893cef4136fb6bbcfa732fb35cc6692b76e0286ba699961a3fc53bd4ebd50b3c"), looks := false }, kinds := [], alts := [], laidByText := true, laidKinds := [.data, .data, .data, .data], laidTests := true, laidLooks := .later }
def StatusPlaysCardSaid : Prop := Claim7.holds Tryd.pinned (.plain (OpenSpec.ofChange statusPlaysSpec)) statusPlaysCard

/-- THE TIED CARD OF 'scantlinglaw17.StatusApart'. -/
def statusApartCard : Claim7 := { stood := { row := statusApartRow, standIns := [], harness := (true, "893cef4136fb6bbcfa732fb35cc6692b76e0286ba699961a3fc53bd4ebd50b3c"), looks := false }, kinds := [], alts := [], laidByText := true, laidKinds := [.data, .data, .data, .data], laidTests := true, laidLooks := .later }
def StatusApartCardSaid : Prop := Claim7.holds Tryd.pinned (.plain (OpenSpec.ofChange statusApartSpec)) statusApartCard

/-- THE TIED CARD OF 'scantlinglaw17.StatusRight'. -/
def statusRightCard : Claim7 := { stood := { row := statusRightRow, standIns := [], harness := (true, "893cef4136fb6bbcfa732fb35cc6692b76e0286ba699961a3fc53bd4ebd50b3c"), looks := false }, kinds := [], alts := [], laidByText := true, laidKinds := [.data, .data, .data, .data], laidTests := true, laidLooks := .later }
def StatusRightCardSaid : Prop := Claim7.holds Tryd.pinned (.plain (OpenSpec.ofChange statusRightSpec)) statusRightCard

/-- THE SECOND FORM's CARD OF 'scantlinglaw17.StatusPlays'. -/
def statusPlaysUptoCard : Claim7 := { stood := { row := statusPlaysUptoRow, standIns := [], harness := (true, "893cef4136fb6bbcfa732fb35cc6692b76e0286ba699961a3fc53bd4ebd50b3c"), looks := false }, kinds := [], alts := [], laidByText := true, laidKinds := [.data, .data, .data, .data], laidTests := true, laidLooks := .later }
def StatusPlaysUptoCardSaid : Prop := Claim7.holds Tryd.pinned (.plain (OpenSpec.upto statusPlaysSpec)) statusPlaysUptoCard

/-- THE SECOND FORM's CARD OF 'scantlinglaw17.StatusApart'. -/
def statusApartUptoCard : Claim7 := { stood := { row := statusApartUptoRow, standIns := [], harness := (true, "893cef4136fb6bbcfa732fb35cc6692b76e0286ba699961a3fc53bd4ebd50b3c"), looks := false }, kinds := [], alts := [], laidByText := true, laidKinds := [.data, .data, .data, .data], laidTests := true, laidLooks := .later }
def StatusApartUptoCardSaid : Prop := Claim7.holds Tryd.pinned (.plain (OpenSpec.upto statusApartSpec)) statusApartUptoCard

/-- THE SECOND FORM's CARD OF 'scantlinglaw17.StatusRight'. -/
def statusRightUptoCard : Claim7 := { stood := { row := statusRightUptoRow, standIns := [], harness := (true, "893cef4136fb6bbcfa732fb35cc6692b76e0286ba699961a3fc53bd4ebd50b3c"), looks := false }, kinds := [], alts := [], laidByText := true, laidKinds := [.data, .data, .data, .data], laidTests := true, laidLooks := .later }
def StatusRightUptoCardSaid : Prop := Claim7.holds Tryd.pinned (.plain (OpenSpec.upto statusRightSpec)) statusRightUptoCard
end Rows
end Go.Proofs.YtoeooabaofpngaaDoor
