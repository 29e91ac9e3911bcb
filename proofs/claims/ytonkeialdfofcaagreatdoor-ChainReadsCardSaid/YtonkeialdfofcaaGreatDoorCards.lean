/-
  DERIVED. GIVEN WITH THE SEED: THE CARDS: each row of YtonkeialdfofcaaGreatDoorRows.lean that lists a variable, with what it lists TIED to the program's text (the seventh form; the later family's looks); each row that meets fmt, with fmt's text TOLD by the authors' own Lean function (tested against real Go, not proved from fmt's source: count such statements apart). THE CARD IS WHAT COUNTS. Prove the row's statement (the work); the ties are given (YtonkeialdfofcaaGreatDoorTie.lean); close each card by the builder's one call (the guide's Derived/Test/ToyasCard.lean, 'card_holds'). Laid BY PROGRAM, IN A SANDBOX (cutbox-door.mjs). By AI agents, Wed Nov 11 2026. No macro, syntax, notation, axiom, sorry.
-/
import Derived.Test.YtonkeialdfofcaaGreatDoorRows
import GoSem.ClaimSeven
namespace Go.Proofs.YtonkeialdfofcaaGreatDoor
namespace Rows

/-- THE TIED CARD OF 'scriptorylaw18.LogDone'. -/
def logDoneCard : Claim7 := { stood := { row := logDoneRow, standIns := [], harness := (true, "addee5d2307f48be784d4af1a9a7858a2ac7fecd88f2e6518e04ca97e66062a7"), looks := true }, kinds := [], alts := [], laidByText := true, laidKinds := [.handle], laidTests := true, laidLooks := .later }
def LogDoneCardSaid : Prop := Claim7.holds Tryz.pinned (.plain (OpenSpec.ofChange logDoneSpec)) logDoneCard

/-- THE TIED CARD OF 'scriptorylaw18.LogFront'. -/
def logFrontCard : Claim7 := { stood := { row := logFrontRow, standIns := [], harness := (true, "addee5d2307f48be784d4af1a9a7858a2ac7fecd88f2e6518e04ca97e66062a7"), looks := true }, kinds := [], alts := [], laidByText := true, laidKinds := [.handle], laidTests := true, laidLooks := .later }
def LogFrontCardSaid : Prop := Claim7.holds Tryz.pinned (.plain (OpenSpec.ofChange logFrontSpec)) logFrontCard

/-- THE TIED CARD OF 'scriptorylaw18.LogAll'. -/
def logAllCard : Claim7 := { stood := { row := logAllRow, standIns := [], harness := (true, "addee5d2307f48be784d4af1a9a7858a2ac7fecd88f2e6518e04ca97e66062a7"), looks := true }, kinds := [], alts := [], laidByText := true, laidKinds := [.handle], laidTests := true, laidLooks := .later }
def LogAllCardSaid : Prop := Claim7.holds Tryz.pinned (.plain (OpenSpec.ofChange logAllSpec)) logAllCard

/-- THE TIED CARD OF 'scriptorylaw18.LogTwice'. -/
def logTwiceCard : Claim7 := { stood := { row := logTwiceRow, standIns := [], harness := (true, "addee5d2307f48be784d4af1a9a7858a2ac7fecd88f2e6518e04ca97e66062a7"), looks := true }, kinds := [], alts := [], laidByText := true, laidKinds := [.handle], laidTests := true, laidLooks := .later }
def LogTwiceCardSaid : Prop := Claim7.holds Tryz.pinned (.plain (OpenSpec.ofChange logTwiceSpec)) logTwiceCard

/-- THE TIED CARD OF 'scriptorylaw19.TxnApart'. -/
def txnApartCard : Claim7 := { stood := { row := txnApartRow, standIns := [], harness := (true, "addee5d2307f48be784d4af1a9a7858a2ac7fecd88f2e6518e04ca97e66062a7"), looks := true }, kinds := [], alts := [], laidByText := true, laidKinds := [.handle], laidTests := true, laidLooks := .later }
def TxnApartCardSaid : Prop := Claim7.holds Tryz.pinned (.plain (OpenSpec.ofChange txnApartSpec)) txnApartCard

/-- THE TIED CARD OF 'scriptorylaw19.TxnAll'. -/
def txnAllCard : Claim7 := { stood := { row := txnAllRow, standIns := [], harness := (true, "addee5d2307f48be784d4af1a9a7858a2ac7fecd88f2e6518e04ca97e66062a7"), looks := true }, kinds := [], alts := [], laidByText := true, laidKinds := [.handle], laidTests := true, laidLooks := .later }
def TxnAllCardSaid : Prop := Claim7.holds Tryz.pinned (.plain (OpenSpec.ofChange txnAllSpec)) txnAllCard

/-- THE TIED CARD OF 'scriptorylaw22.ChainLong'. -/
def chainLongCard : Claim7 := { stood := { row := chainLongRow, standIns := [], harness := (true, "addee5d2307f48be784d4af1a9a7858a2ac7fecd88f2e6518e04ca97e66062a7"), looks := true }, kinds := [], alts := [], laidByText := true, laidKinds := [.handle], laidTests := true, laidLooks := .later }
def ChainLongCardSaid : Prop := Claim7.holds Tryz.pinned (.plain (OpenSpec.ofChange chainLongSpec)) chainLongCard

/-- THE TIED CARD OF 'scriptorylaw22.ChainReads'. -/
def chainReadsCard : Claim7 := { stood := { row := chainReadsRow, standIns := [], harness := (true, "addee5d2307f48be784d4af1a9a7858a2ac7fecd88f2e6518e04ca97e66062a7"), looks := true }, kinds := [], alts := [], laidByText := true, laidKinds := [.handle], laidTests := true, laidLooks := .later }
def ChainReadsCardSaid : Prop := Claim7.holds Tryz.pinned (.plain (OpenSpec.ofChange chainReadsSpec)) chainReadsCard

/-- THE TIED CARD OF 'scriptorylaw22.ChainWrites'. -/
def chainWritesCard : Claim7 := { stood := { row := chainWritesRow, standIns := [], harness := (true, "addee5d2307f48be784d4af1a9a7858a2ac7fecd88f2e6518e04ca97e66062a7"), looks := true }, kinds := [], alts := [], laidByText := true, laidKinds := [.handle], laidTests := true, laidLooks := .later }
def ChainWritesCardSaid : Prop := Claim7.holds Tryz.pinned (.plain (OpenSpec.ofChange chainWritesSpec)) chainWritesCard

/-- THE TIED CARD OF 'scriptorylaw22.ChainFull'. -/
def chainFullCard : Claim7 := { stood := { row := chainFullRow, standIns := [], harness := (true, "addee5d2307f48be784d4af1a9a7858a2ac7fecd88f2e6518e04ca97e66062a7"), looks := true }, kinds := [], alts := [], laidByText := true, laidKinds := [.handle], laidTests := true, laidLooks := .later }
def ChainFullCardSaid : Prop := Claim7.holds Tryz.pinned (.plain (OpenSpec.ofChange chainFullSpec)) chainFullCard

/-- THE TIED CARD OF 'scriptorylaw22.ChainDrops'. -/
def chainDropsCard : Claim7 := { stood := { row := chainDropsRow, standIns := [], harness := (true, "addee5d2307f48be784d4af1a9a7858a2ac7fecd88f2e6518e04ca97e66062a7"), looks := true }, kinds := [], alts := [], laidByText := true, laidKinds := [.handle], laidTests := true, laidLooks := .later }
def ChainDropsCardSaid : Prop := Claim7.holds Tryz.pinned (.plain (OpenSpec.ofChange chainDropsSpec)) chainDropsCard

/-- THE TIED CARD OF 'scriptorylaw22.ChainKeeps'. -/
def chainKeepsCard : Claim7 := { stood := { row := chainKeepsRow, standIns := [], harness := (true, "addee5d2307f48be784d4af1a9a7858a2ac7fecd88f2e6518e04ca97e66062a7"), looks := true }, kinds := [], alts := [], laidByText := true, laidKinds := [.handle], laidTests := true, laidLooks := .later }
def ChainKeepsCardSaid : Prop := Claim7.holds Tryz.pinned (.plain (OpenSpec.ofChange chainKeepsSpec)) chainKeepsCard

/-- THE SECOND FORM's CARD OF 'scriptorylaw18.LogDone'. -/
def logDoneUptoCard : Claim7 := { stood := { row := logDoneUptoRow, standIns := [], harness := (true, "addee5d2307f48be784d4af1a9a7858a2ac7fecd88f2e6518e04ca97e66062a7"), looks := true }, kinds := [], alts := [], laidByText := true, laidKinds := [.handle], laidTests := true, laidLooks := .later }
def LogDoneUptoCardSaid : Prop := Claim7.holds Tryz.pinned (.plain (OpenSpec.upto logDoneSpec)) logDoneUptoCard

/-- THE SECOND FORM's CARD OF 'scriptorylaw18.LogFront'. -/
def logFrontUptoCard : Claim7 := { stood := { row := logFrontUptoRow, standIns := [], harness := (true, "addee5d2307f48be784d4af1a9a7858a2ac7fecd88f2e6518e04ca97e66062a7"), looks := true }, kinds := [], alts := [], laidByText := true, laidKinds := [.handle], laidTests := true, laidLooks := .later }
def LogFrontUptoCardSaid : Prop := Claim7.holds Tryz.pinned (.plain (OpenSpec.upto logFrontSpec)) logFrontUptoCard

/-- THE SECOND FORM's CARD OF 'scriptorylaw18.LogAll'. -/
def logAllUptoCard : Claim7 := { stood := { row := logAllUptoRow, standIns := [], harness := (true, "addee5d2307f48be784d4af1a9a7858a2ac7fecd88f2e6518e04ca97e66062a7"), looks := true }, kinds := [], alts := [], laidByText := true, laidKinds := [.handle], laidTests := true, laidLooks := .later }
def LogAllUptoCardSaid : Prop := Claim7.holds Tryz.pinned (.plain (OpenSpec.upto logAllSpec)) logAllUptoCard

/-- THE SECOND FORM's CARD OF 'scriptorylaw18.LogTwice'. -/
def logTwiceUptoCard : Claim7 := { stood := { row := logTwiceUptoRow, standIns := [], harness := (true, "addee5d2307f48be784d4af1a9a7858a2ac7fecd88f2e6518e04ca97e66062a7"), looks := true }, kinds := [], alts := [], laidByText := true, laidKinds := [.handle], laidTests := true, laidLooks := .later }
def LogTwiceUptoCardSaid : Prop := Claim7.holds Tryz.pinned (.plain (OpenSpec.upto logTwiceSpec)) logTwiceUptoCard

/-- THE SECOND FORM's CARD OF 'scriptorylaw19.TxnApart'. -/
def txnApartUptoCard : Claim7 := { stood := { row := txnApartUptoRow, standIns := [], harness := (true, "addee5d2307f48be784d4af1a9a7858a2ac7fecd88f2e6518e04ca97e66062a7"), looks := true }, kinds := [], alts := [], laidByText := true, laidKinds := [.handle], laidTests := true, laidLooks := .later }
def TxnApartUptoCardSaid : Prop := Claim7.holds Tryz.pinned (.plain (OpenSpec.upto txnApartSpec)) txnApartUptoCard

/-- THE SECOND FORM's CARD OF 'scriptorylaw19.TxnAll'. -/
def txnAllUptoCard : Claim7 := { stood := { row := txnAllUptoRow, standIns := [], harness := (true, "addee5d2307f48be784d4af1a9a7858a2ac7fecd88f2e6518e04ca97e66062a7"), looks := true }, kinds := [], alts := [], laidByText := true, laidKinds := [.handle], laidTests := true, laidLooks := .later }
def TxnAllUptoCardSaid : Prop := Claim7.holds Tryz.pinned (.plain (OpenSpec.upto txnAllSpec)) txnAllUptoCard

/-- THE SECOND FORM's CARD OF 'scriptorylaw22.ChainLong'. -/
def chainLongUptoCard : Claim7 := { stood := { row := chainLongUptoRow, standIns := [], harness := (true, "addee5d2307f48be784d4af1a9a7858a2ac7fecd88f2e6518e04ca97e66062a7"), looks := true }, kinds := [], alts := [], laidByText := true, laidKinds := [.handle], laidTests := true, laidLooks := .later }
def ChainLongUptoCardSaid : Prop := Claim7.holds Tryz.pinned (.plain (OpenSpec.upto chainLongSpec)) chainLongUptoCard

/-- THE SECOND FORM's CARD OF 'scriptorylaw22.ChainReads'. -/
def chainReadsUptoCard : Claim7 := { stood := { row := chainReadsUptoRow, standIns := [], harness := (true, "addee5d2307f48be784d4af1a9a7858a2ac7fecd88f2e6518e04ca97e66062a7"), looks := true }, kinds := [], alts := [], laidByText := true, laidKinds := [.handle], laidTests := true, laidLooks := .later }
def ChainReadsUptoCardSaid : Prop := Claim7.holds Tryz.pinned (.plain (OpenSpec.upto chainReadsSpec)) chainReadsUptoCard

/-- THE SECOND FORM's CARD OF 'scriptorylaw22.ChainWrites'. -/
def chainWritesUptoCard : Claim7 := { stood := { row := chainWritesUptoRow, standIns := [], harness := (true, "addee5d2307f48be784d4af1a9a7858a2ac7fecd88f2e6518e04ca97e66062a7"), looks := true }, kinds := [], alts := [], laidByText := true, laidKinds := [.handle], laidTests := true, laidLooks := .later }
def ChainWritesUptoCardSaid : Prop := Claim7.holds Tryz.pinned (.plain (OpenSpec.upto chainWritesSpec)) chainWritesUptoCard

/-- THE SECOND FORM's CARD OF 'scriptorylaw22.ChainFull'. -/
def chainFullUptoCard : Claim7 := { stood := { row := chainFullUptoRow, standIns := [], harness := (true, "addee5d2307f48be784d4af1a9a7858a2ac7fecd88f2e6518e04ca97e66062a7"), looks := true }, kinds := [], alts := [], laidByText := true, laidKinds := [.handle], laidTests := true, laidLooks := .later }
def ChainFullUptoCardSaid : Prop := Claim7.holds Tryz.pinned (.plain (OpenSpec.upto chainFullSpec)) chainFullUptoCard

/-- THE SECOND FORM's CARD OF 'scriptorylaw22.ChainDrops'. -/
def chainDropsUptoCard : Claim7 := { stood := { row := chainDropsUptoRow, standIns := [], harness := (true, "addee5d2307f48be784d4af1a9a7858a2ac7fecd88f2e6518e04ca97e66062a7"), looks := true }, kinds := [], alts := [], laidByText := true, laidKinds := [.handle], laidTests := true, laidLooks := .later }
def ChainDropsUptoCardSaid : Prop := Claim7.holds Tryz.pinned (.plain (OpenSpec.upto chainDropsSpec)) chainDropsUptoCard

/-- THE SECOND FORM's CARD OF 'scriptorylaw22.ChainKeeps'. -/
def chainKeepsUptoCard : Claim7 := { stood := { row := chainKeepsUptoRow, standIns := [], harness := (true, "addee5d2307f48be784d4af1a9a7858a2ac7fecd88f2e6518e04ca97e66062a7"), looks := true }, kinds := [], alts := [], laidByText := true, laidKinds := [.handle], laidTests := true, laidLooks := .later }
def ChainKeepsUptoCardSaid : Prop := Claim7.holds Tryz.pinned (.plain (OpenSpec.upto chainKeepsSpec)) chainKeepsUptoCard
end Rows
end Go.Proofs.YtonkeialdfofcaaGreatDoor
