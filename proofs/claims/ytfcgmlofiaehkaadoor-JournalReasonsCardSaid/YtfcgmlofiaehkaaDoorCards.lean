/-
  DERIVED. GIVEN WITH THE SEED: THE CARDS: each row of YtfcgmlofiaehkaaDoorRows.lean that lists a variable, with what it lists TIED to the program's text (the seventh form; the later family's looks); each row that meets fmt, with fmt's text TOLD by the authors' own Lean function (tested against real Go, not proved from fmt's source: count such statements apart). THE CARD IS WHAT COUNTS. Prove the row's statement (the work); the ties are given (YtfcgmlofiaehkaaDoorTie.lean); close each card by the builder's one call (the guide's Derived/Test/ToyasCard.lean, 'card_holds'). Laid BY PROGRAM, IN A SANDBOX (cutbox-door.mjs). By AI agents, Wed Nov 11 2026. No macro, syntax, notation, axiom, sorry.
-/
import Derived.Test.YtfcgmlofiaehkaaDoorRows
import GoSem.ClaimSeven
namespace Go.Proofs.YtfcgmlofiaehkaaDoor
namespace Rows

/-- THE TIED CARD OF 'shardlaw9.JournalWraps'. -/
def journalWrapsCard : Claim7 := { stood := { row := journalWrapsRow, standIns := [], harness := (true, "9b8df9e89d3c31383f42dc6feb7085ebc1335539ce367c6f48be807da44765a7"), looks := true }, kinds := [], alts := [], laidByText := true, laidKinds := [.handle], laidTests := true, laidLooks := .later }
def JournalWrapsCardSaid : Prop := Claim7.holds Tryd.pinned (.plain (OpenSpec.ofChange journalWrapsSpec)) journalWrapsCard

/-- THE TIED CARD OF 'shardlaw9.JournalOpens'. -/
def journalOpensCard : Claim7 := { stood := { row := journalOpensRow, standIns := [], harness := (true, "9b8df9e89d3c31383f42dc6feb7085ebc1335539ce367c6f48be807da44765a7"), looks := true }, kinds := [], alts := [], laidByText := true, laidKinds := [.handle], laidTests := true, laidLooks := .later }
def JournalOpensCardSaid : Prop := Claim7.holds Tryd.pinned (.plain (OpenSpec.ofChange journalOpensSpec)) journalOpensCard

/-- THE TIED CARD OF 'shardlaw9.JournalReasons'. -/
def journalReasonsCard : Claim7 := { stood := { row := journalReasonsRow, standIns := [], harness := (true, "9b8df9e89d3c31383f42dc6feb7085ebc1335539ce367c6f48be807da44765a7"), looks := true }, kinds := [], alts := [], laidByText := true, laidKinds := [.data, .data, .data, .handle], laidTests := true, laidLooks := .later }
def JournalReasonsCardSaid : Prop := Claim7.holds Tryd.pinned (.plain (OpenSpec.ofChange journalReasonsSpec)) journalReasonsCard

/-- THE TIED CARD OF 'shardlaw9.JournalCuts'. -/
def journalCutsCard : Claim7 := { stood := { row := journalCutsRow, standIns := [], harness := (true, "9b8df9e89d3c31383f42dc6feb7085ebc1335539ce367c6f48be807da44765a7"), looks := true }, kinds := [], alts := [], laidByText := true, laidKinds := [.handle], laidTests := true, laidLooks := .later }
def JournalCutsCardSaid : Prop := Claim7.holds Tryd.pinned (.plain (OpenSpec.ofChange journalCutsSpec)) journalCutsCard

/-- THE TIED CARD OF 'shardlaw9.JournalOwn'. -/
def journalOwnCard : Claim7 := { stood := { row := journalOwnRow, standIns := [], harness := (true, "9b8df9e89d3c31383f42dc6feb7085ebc1335539ce367c6f48be807da44765a7"), looks := true }, kinds := [], alts := [], laidByText := true, laidKinds := [.handle], laidTests := true, laidLooks := .later }
def JournalOwnCardSaid : Prop := Claim7.holds Tryd.pinned (.plain (OpenSpec.ofChange journalOwnSpec)) journalOwnCard

/-- THE TIED CARD OF 'shardlaw9.JournalRoom'. -/
def journalRoomCard : Claim7 := { stood := { row := journalRoomRow, standIns := [], harness := (true, "9b8df9e89d3c31383f42dc6feb7085ebc1335539ce367c6f48be807da44765a7"), looks := true }, kinds := [], alts := [], laidByText := true, laidKinds := [.handle], laidTests := true, laidLooks := .later }
def JournalRoomCardSaid : Prop := Claim7.holds Tryd.pinned (.plain (OpenSpec.ofChange journalRoomSpec)) journalRoomCard

/-- THE TIED CARD OF 'shardlaw9.JournalGens'. -/
def journalGensCard : Claim7 := { stood := { row := journalGensRow, standIns := [], harness := (true, "9b8df9e89d3c31383f42dc6feb7085ebc1335539ce367c6f48be807da44765a7"), looks := true }, kinds := [], alts := [], laidByText := true, laidKinds := [.handle], laidTests := true, laidLooks := .later }
def JournalGensCardSaid : Prop := Claim7.holds Tryd.pinned (.plain (OpenSpec.ofChange journalGensSpec)) journalGensCard

/-- THE TIED CARD OF 'shardlaw9.JournalCommits'. -/
def journalCommitsCard : Claim7 := { stood := { row := journalCommitsRow, standIns := [], harness := (true, "9b8df9e89d3c31383f42dc6feb7085ebc1335539ce367c6f48be807da44765a7"), looks := true }, kinds := [], alts := [], laidByText := true, laidKinds := [.handle], laidTests := true, laidLooks := .later }
def JournalCommitsCardSaid : Prop := Claim7.holds Tryd.pinned (.plain (OpenSpec.ofChange journalCommitsSpec)) journalCommitsCard

/-- THE TIED CARD OF 'shardlaw9.JournalNil'. -/
def journalNilCard : Claim7 := { stood := { row := journalNilRow, standIns := [], harness := (true, "9b8df9e89d3c31383f42dc6feb7085ebc1335539ce367c6f48be807da44765a7"), looks := true }, kinds := [], alts := [], laidByText := true, laidKinds := [.handle], laidTests := true, laidLooks := .later }
def JournalNilCardSaid : Prop := Claim7.holds Tryd.pinned (.plain (OpenSpec.ofChange journalNilSpec)) journalNilCard

/-- THE TIED CARD OF 'shardlaw9.JournalEnds'. -/
def journalEndsCard : Claim7 := { stood := { row := journalEndsRow, standIns := [], harness := (true, "9b8df9e89d3c31383f42dc6feb7085ebc1335539ce367c6f48be807da44765a7"), looks := true }, kinds := [], alts := [], laidByText := true, laidKinds := [.handle], laidTests := true, laidLooks := .later }
def JournalEndsCardSaid : Prop := Claim7.holds Tryd.pinned (.plain (OpenSpec.ofChange journalEndsSpec)) journalEndsCard

/-- THE TIED CARD OF 'shardlaw9.JournalAll'. -/
def journalAllCard : Claim7 := { stood := { row := journalAllRow, standIns := [], harness := (true, "9b8df9e89d3c31383f42dc6feb7085ebc1335539ce367c6f48be807da44765a7"), looks := true }, kinds := [], alts := [], laidByText := true, laidKinds := [.handle], laidTests := true, laidLooks := .later }
def JournalAllCardSaid : Prop := Claim7.holds Tryd.pinned (.plain (OpenSpec.ofChange journalAllSpec)) journalAllCard

/-- THE TIED CARD OF 'shardlaw9.JournalBit'. -/
def journalBitCard : Claim7 := { stood := { row := journalBitRow, standIns := [], harness := (true, "9b8df9e89d3c31383f42dc6feb7085ebc1335539ce367c6f48be807da44765a7"), looks := true }, kinds := [], alts := [], laidByText := true, laidKinds := [.handle], laidTests := true, laidLooks := .later }
def JournalBitCardSaid : Prop := Claim7.holds Tryd.pinned (.plain (OpenSpec.ofChange journalBitSpec)) journalBitCard

/-- THE TIED CARD OF 'shardlaw9.JournalFaults'. -/
def journalFaultsCard : Claim7 := { stood := { row := journalFaultsRow, standIns := [], harness := (true, "9b8df9e89d3c31383f42dc6feb7085ebc1335539ce367c6f48be807da44765a7"), looks := true }, kinds := [], alts := [], laidByText := true, laidKinds := [.data, .data, .data, .handle], laidTests := true, laidLooks := .later }
def JournalFaultsCardSaid : Prop := Claim7.holds Tryd.pinned (.plain (OpenSpec.ofChange journalFaultsSpec)) journalFaultsCard

/-- THE SECOND FORM's CARD OF 'shardlaw9.JournalWraps'. -/
def journalWrapsUptoCard : Claim7 := { stood := { row := journalWrapsUptoRow, standIns := [], harness := (true, "9b8df9e89d3c31383f42dc6feb7085ebc1335539ce367c6f48be807da44765a7"), looks := true }, kinds := [], alts := [], laidByText := true, laidKinds := [.handle], laidTests := true, laidLooks := .later }
def JournalWrapsUptoCardSaid : Prop := Claim7.holds Tryd.pinned (.plain (OpenSpec.upto journalWrapsSpec)) journalWrapsUptoCard

/-- THE SECOND FORM's CARD OF 'shardlaw9.JournalOpens'. -/
def journalOpensUptoCard : Claim7 := { stood := { row := journalOpensUptoRow, standIns := [], harness := (true, "9b8df9e89d3c31383f42dc6feb7085ebc1335539ce367c6f48be807da44765a7"), looks := true }, kinds := [], alts := [], laidByText := true, laidKinds := [.handle], laidTests := true, laidLooks := .later }
def JournalOpensUptoCardSaid : Prop := Claim7.holds Tryd.pinned (.plain (OpenSpec.upto journalOpensSpec)) journalOpensUptoCard

/-- THE SECOND FORM's CARD OF 'shardlaw9.JournalReasons'. -/
def journalReasonsUptoCard : Claim7 := { stood := { row := journalReasonsUptoRow, standIns := [], harness := (true, "9b8df9e89d3c31383f42dc6feb7085ebc1335539ce367c6f48be807da44765a7"), looks := true }, kinds := [], alts := [], laidByText := true, laidKinds := [.data, .data, .data, .handle], laidTests := true, laidLooks := .later }
def JournalReasonsUptoCardSaid : Prop := Claim7.holds Tryd.pinned (.plain (OpenSpec.upto journalReasonsSpec)) journalReasonsUptoCard

/-- THE SECOND FORM's CARD OF 'shardlaw9.JournalCuts'. -/
def journalCutsUptoCard : Claim7 := { stood := { row := journalCutsUptoRow, standIns := [], harness := (true, "9b8df9e89d3c31383f42dc6feb7085ebc1335539ce367c6f48be807da44765a7"), looks := true }, kinds := [], alts := [], laidByText := true, laidKinds := [.handle], laidTests := true, laidLooks := .later }
def JournalCutsUptoCardSaid : Prop := Claim7.holds Tryd.pinned (.plain (OpenSpec.upto journalCutsSpec)) journalCutsUptoCard

/-- THE SECOND FORM's CARD OF 'shardlaw9.JournalOwn'. -/
def journalOwnUptoCard : Claim7 := { stood := { row := journalOwnUptoRow, standIns := [], harness := (true, "9b8df9e89d3c31383f42dc6feb7085ebc1335539ce367c6f48be807da44765a7"), looks := true }, kinds := [], alts := [], laidByText := true, laidKinds := [.handle], laidTests := true, laidLooks := .later }
def JournalOwnUptoCardSaid : Prop := Claim7.holds Tryd.pinned (.plain (OpenSpec.upto journalOwnSpec)) journalOwnUptoCard

/-- THE SECOND FORM's CARD OF 'shardlaw9.JournalRoom'. -/
def journalRoomUptoCard : Claim7 := { stood := { row := journalRoomUptoRow, standIns := [], harness := (true, "9b8df9e89d3c31383f42dc6feb7085ebc1335539ce367c6f48be807da44765a7"), looks := true }, kinds := [], alts := [], laidByText := true, laidKinds := [.handle], laidTests := true, laidLooks := .later }
def JournalRoomUptoCardSaid : Prop := Claim7.holds Tryd.pinned (.plain (OpenSpec.upto journalRoomSpec)) journalRoomUptoCard

/-- THE SECOND FORM's CARD OF 'shardlaw9.JournalGens'. -/
def journalGensUptoCard : Claim7 := { stood := { row := journalGensUptoRow, standIns := [], harness := (true, "9b8df9e89d3c31383f42dc6feb7085ebc1335539ce367c6f48be807da44765a7"), looks := true }, kinds := [], alts := [], laidByText := true, laidKinds := [.handle], laidTests := true, laidLooks := .later }
def JournalGensUptoCardSaid : Prop := Claim7.holds Tryd.pinned (.plain (OpenSpec.upto journalGensSpec)) journalGensUptoCard

/-- THE SECOND FORM's CARD OF 'shardlaw9.JournalCommits'. -/
def journalCommitsUptoCard : Claim7 := { stood := { row := journalCommitsUptoRow, standIns := [], harness := (true, "9b8df9e89d3c31383f42dc6feb7085ebc1335539ce367c6f48be807da44765a7"), looks := true }, kinds := [], alts := [], laidByText := true, laidKinds := [.handle], laidTests := true, laidLooks := .later }
def JournalCommitsUptoCardSaid : Prop := Claim7.holds Tryd.pinned (.plain (OpenSpec.upto journalCommitsSpec)) journalCommitsUptoCard

/-- THE SECOND FORM's CARD OF 'shardlaw9.JournalNil'. -/
def journalNilUptoCard : Claim7 := { stood := { row := journalNilUptoRow, standIns := [], harness := (true, "9b8df9e89d3c31383f42dc6feb7085ebc1335539ce367c6f48be807da44765a7"), looks := true }, kinds := [], alts := [], laidByText := true, laidKinds := [.handle], laidTests := true, laidLooks := .later }
def JournalNilUptoCardSaid : Prop := Claim7.holds Tryd.pinned (.plain (OpenSpec.upto journalNilSpec)) journalNilUptoCard

/-- THE SECOND FORM's CARD OF 'shardlaw9.JournalEnds'. -/
def journalEndsUptoCard : Claim7 := { stood := { row := journalEndsUptoRow, standIns := [], harness := (true, "9b8df9e89d3c31383f42dc6feb7085ebc1335539ce367c6f48be807da44765a7"), looks := true }, kinds := [], alts := [], laidByText := true, laidKinds := [.handle], laidTests := true, laidLooks := .later }
def JournalEndsUptoCardSaid : Prop := Claim7.holds Tryd.pinned (.plain (OpenSpec.upto journalEndsSpec)) journalEndsUptoCard

/-- THE SECOND FORM's CARD OF 'shardlaw9.JournalAll'. -/
def journalAllUptoCard : Claim7 := { stood := { row := journalAllUptoRow, standIns := [], harness := (true, "9b8df9e89d3c31383f42dc6feb7085ebc1335539ce367c6f48be807da44765a7"), looks := true }, kinds := [], alts := [], laidByText := true, laidKinds := [.handle], laidTests := true, laidLooks := .later }
def JournalAllUptoCardSaid : Prop := Claim7.holds Tryd.pinned (.plain (OpenSpec.upto journalAllSpec)) journalAllUptoCard

/-- THE SECOND FORM's CARD OF 'shardlaw9.JournalBit'. -/
def journalBitUptoCard : Claim7 := { stood := { row := journalBitUptoRow, standIns := [], harness := (true, "9b8df9e89d3c31383f42dc6feb7085ebc1335539ce367c6f48be807da44765a7"), looks := true }, kinds := [], alts := [], laidByText := true, laidKinds := [.handle], laidTests := true, laidLooks := .later }
def JournalBitUptoCardSaid : Prop := Claim7.holds Tryd.pinned (.plain (OpenSpec.upto journalBitSpec)) journalBitUptoCard

/-- THE SECOND FORM's CARD OF 'shardlaw9.JournalFaults'. -/
def journalFaultsUptoCard : Claim7 := { stood := { row := journalFaultsUptoRow, standIns := [], harness := (true, "9b8df9e89d3c31383f42dc6feb7085ebc1335539ce367c6f48be807da44765a7"), looks := true }, kinds := [], alts := [], laidByText := true, laidKinds := [.data, .data, .data, .handle], laidTests := true, laidLooks := .later }
def JournalFaultsUptoCardSaid : Prop := Claim7.holds Tryd.pinned (.plain (OpenSpec.upto journalFaultsSpec)) journalFaultsUptoCard
end Rows
end Go.Proofs.YtfcgmlofiaehkaaDoor
