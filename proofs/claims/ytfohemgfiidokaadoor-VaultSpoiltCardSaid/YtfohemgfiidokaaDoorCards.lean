/-
  DERIVED. GIVEN WITH THE SEED: THE CARDS: each row of YtfohemgfiidokaaDoorRows.lean that lists a variable, with what it lists TIED to the program's text (the seventh form; the later family's looks); each row that meets fmt, with fmt's text TOLD by the authors' own Lean function (tested against real Go, not proved from fmt's source: count such statements apart). THE CARD IS WHAT COUNTS. Prove the row's statement (the work); the ties are given (YtfohemgfiidokaaDoorTie.lean); close each card by the builder's one call (the guide's Derived/Test/ToyasCard.lean, 'card_holds'). Laid BY PROGRAM, IN A SANDBOX (cutbox-door.mjs). By AI agents, Wed Nov 11 2026. No macro, syntax, notation, axiom, sorry.
-/
import Derived.Test.YtfohemgfiidokaaDoorRows
import GoSem.ClaimSeven
namespace Go.Proofs.YtfohemgfiidokaaDoor
namespace Rows

/-- THE TIED CARD OF 'scantlinglaw12.VaultKeeps'. -/
def vaultKeepsCard : Claim7 := { stood := { row := vaultKeepsRow, standIns := [], harness := (true, "cbba0fa94ec7fd677804f3f34af6609283a9f44e0d0b407d897de2298f1ad512"), looks := false }, kinds := [], alts := [], laidByText := true, laidKinds := [.data], laidTests := true, laidLooks := .later }
def VaultKeepsCardSaid : Prop := Claim7.holds Tryd.pinned (.plain (OpenSpec.ofChange vaultKeepsSpec)) vaultKeepsCard

/-- THE TIED CARD OF 'scantlinglaw12.VaultFull'. -/
def vaultFullCard : Claim7 := { stood := { row := vaultFullRow, standIns := [], harness := (true, "cbba0fa94ec7fd677804f3f34af6609283a9f44e0d0b407d897de2298f1ad512"), looks := false }, kinds := [], alts := [], laidByText := true, laidKinds := [.data], laidTests := true, laidLooks := .later }
def VaultFullCardSaid : Prop := Claim7.holds Tryd.pinned (.plain (OpenSpec.ofChange vaultFullSpec)) vaultFullCard

/-- THE TIED CARD OF 'scantlinglaw12.VaultSpoilt'. -/
def vaultSpoiltCard : Claim7 := { stood := { row := vaultSpoiltRow, standIns := [], harness := (true, "cbba0fa94ec7fd677804f3f34af6609283a9f44e0d0b407d897de2298f1ad512"), looks := false }, kinds := [], alts := [], laidByText := true, laidKinds := [.data], laidTests := true, laidLooks := .later }
def VaultSpoiltCardSaid : Prop := Claim7.holds Tryd.pinned (.plain (OpenSpec.ofChange vaultSpoiltSpec)) vaultSpoiltCard

/-- THE TIED CARD OF 'scantlinglaw12.VaultLong'. -/
def vaultLongCard : Claim7 := { stood := { row := vaultLongRow, standIns := [], harness := (true, "cbba0fa94ec7fd677804f3f34af6609283a9f44e0d0b407d897de2298f1ad512"), looks := false }, kinds := [], alts := [], laidByText := true, laidKinds := [.data], laidTests := true, laidLooks := .later }
def VaultLongCardSaid : Prop := Claim7.holds Tryd.pinned (.plain (OpenSpec.ofChange vaultLongSpec)) vaultLongCard

/-- THE TIED CARD OF 'scantlinglaw12.VaultNil'. -/
def vaultNilCard : Claim7 := { stood := { row := vaultNilRow, standIns := [], harness := (true, "cbba0fa94ec7fd677804f3f34af6609283a9f44e0d0b407d897de2298f1ad512"), looks := false }, kinds := [], alts := [], laidByText := true, laidKinds := [.data], laidTests := true, laidLooks := .later }
def VaultNilCardSaid : Prop := Claim7.holds Tryd.pinned (.plain (OpenSpec.ofChange vaultNilSpec)) vaultNilCard

/-- THE SECOND FORM's CARD OF 'scantlinglaw12.VaultKeeps'. -/
def vaultKeepsUptoCard : Claim7 := { stood := { row := vaultKeepsUptoRow, standIns := [], harness := (true, "cbba0fa94ec7fd677804f3f34af6609283a9f44e0d0b407d897de2298f1ad512"), looks := false }, kinds := [], alts := [], laidByText := true, laidKinds := [.data], laidTests := true, laidLooks := .later }
def VaultKeepsUptoCardSaid : Prop := Claim7.holds Tryd.pinned (.plain (OpenSpec.upto vaultKeepsSpec)) vaultKeepsUptoCard

/-- THE SECOND FORM's CARD OF 'scantlinglaw12.VaultFull'. -/
def vaultFullUptoCard : Claim7 := { stood := { row := vaultFullUptoRow, standIns := [], harness := (true, "cbba0fa94ec7fd677804f3f34af6609283a9f44e0d0b407d897de2298f1ad512"), looks := false }, kinds := [], alts := [], laidByText := true, laidKinds := [.data], laidTests := true, laidLooks := .later }
def VaultFullUptoCardSaid : Prop := Claim7.holds Tryd.pinned (.plain (OpenSpec.upto vaultFullSpec)) vaultFullUptoCard

/-- THE SECOND FORM's CARD OF 'scantlinglaw12.VaultSpoilt'. -/
def vaultSpoiltUptoCard : Claim7 := { stood := { row := vaultSpoiltUptoRow, standIns := [], harness := (true, "cbba0fa94ec7fd677804f3f34af6609283a9f44e0d0b407d897de2298f1ad512"), looks := false }, kinds := [], alts := [], laidByText := true, laidKinds := [.data], laidTests := true, laidLooks := .later }
def VaultSpoiltUptoCardSaid : Prop := Claim7.holds Tryd.pinned (.plain (OpenSpec.upto vaultSpoiltSpec)) vaultSpoiltUptoCard

/-- THE SECOND FORM's CARD OF 'scantlinglaw12.VaultLong'. -/
def vaultLongUptoCard : Claim7 := { stood := { row := vaultLongUptoRow, standIns := [], harness := (true, "cbba0fa94ec7fd677804f3f34af6609283a9f44e0d0b407d897de2298f1ad512"), looks := false }, kinds := [], alts := [], laidByText := true, laidKinds := [.data], laidTests := true, laidLooks := .later }
def VaultLongUptoCardSaid : Prop := Claim7.holds Tryd.pinned (.plain (OpenSpec.upto vaultLongSpec)) vaultLongUptoCard

/-- THE SECOND FORM's CARD OF 'scantlinglaw12.VaultNil'. -/
def vaultNilUptoCard : Claim7 := { stood := { row := vaultNilUptoRow, standIns := [], harness := (true, "cbba0fa94ec7fd677804f3f34af6609283a9f44e0d0b407d897de2298f1ad512"), looks := false }, kinds := [], alts := [], laidByText := true, laidKinds := [.data], laidTests := true, laidLooks := .later }
def VaultNilUptoCardSaid : Prop := Claim7.holds Tryd.pinned (.plain (OpenSpec.upto vaultNilSpec)) vaultNilUptoCard
end Rows
end Go.Proofs.YtfohemgfiidokaaDoor
