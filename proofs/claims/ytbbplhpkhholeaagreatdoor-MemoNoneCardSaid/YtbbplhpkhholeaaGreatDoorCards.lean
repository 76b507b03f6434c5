/-
  DERIVED. GIVEN WITH THE SEED: THE CARDS: each row of YtbbplhpkhholeaaGreatDoorRows.lean that lists a variable, with what it lists TIED to the program's text (the seventh form; the later family's looks); each row that meets fmt, with fmt's text TOLD by the authors' own Lean function (tested against real Go, not proved from fmt's source: count such statements apart). THE CARD IS WHAT COUNTS. Prove the row's statement (the work); the ties are given (YtbbplhpkhholeaaGreatDoorTie.lean); close each card by the builder's one call (the guide's Derived/Test/ToyasCard.lean, 'card_holds'). Laid BY PROGRAM, IN A SANDBOX (cutbox-door.mjs). By AI agents, Wed Nov 11 2026. No macro, syntax, notation, axiom, sorry.
-/
import Derived.Test.YtbbplhpkhholeaaGreatDoorRows
import GoSem.ClaimSeven
namespace Go.Proofs.YtbbplhpkhholeaaGreatDoor
namespace Rows

/-- THE TIED CARD OF 'espalierlaw18.MemoParts'. -/
def memoPartsCard : Claim7 := { stood := { row := memoPartsRow, standIns := [], harness := (true, "150b5f815deb7600a8650705a2ea1c4a370cb9ce6c66b3025f62d9c20d048c4a"), looks := false }, kinds := [], alts := [], laidByText := true, laidKinds := [.data, .data, .data], laidTests := true, laidLooks := .later }
def MemoPartsCardSaid : Prop := Claim7.holds Tryz.pinned (.plain (OpenSpec.ofChange memoPartsSpec)) memoPartsCard

/-- THE TIED CARD OF 'espalierlaw18.MemoOpens'. -/
def memoOpensCard : Claim7 := { stood := { row := memoOpensRow, standIns := [], harness := (true, "150b5f815deb7600a8650705a2ea1c4a370cb9ce6c66b3025f62d9c20d048c4a"), looks := false }, kinds := [], alts := [], laidByText := true, laidKinds := [.data, .data, .data], laidTests := true, laidLooks := .later }
def MemoOpensCardSaid : Prop := Claim7.holds Tryz.pinned (.plain (OpenSpec.ofChange memoOpensSpec)) memoOpensCard

/-- THE TIED CARD OF 'espalierlaw18.MemoCut'. -/
def memoCutCard : Claim7 := { stood := { row := memoCutRow, standIns := [], harness := (true, "150b5f815deb7600a8650705a2ea1c4a370cb9ce6c66b3025f62d9c20d048c4a"), looks := false }, kinds := [], alts := [], laidByText := true, laidKinds := [.data, .data, .data], laidTests := true, laidLooks := .later }
def MemoCutCardSaid : Prop := Claim7.holds Tryz.pinned (.plain (OpenSpec.ofChange memoCutSpec)) memoCutCard

/-- THE TIED CARD OF 'espalierlaw18.MemoNone'. -/
def memoNoneCard : Claim7 := { stood := { row := memoNoneRow, standIns := [], harness := (true, "150b5f815deb7600a8650705a2ea1c4a370cb9ce6c66b3025f62d9c20d048c4a"), looks := false }, kinds := [], alts := [], laidByText := true, laidKinds := [.data, .data, .data], laidTests := true, laidLooks := .later }
def MemoNoneCardSaid : Prop := Claim7.holds Tryz.pinned (.plain (OpenSpec.ofChange memoNoneSpec)) memoNoneCard

/-- THE TIED CARD OF 'espalierlaw18.MemoDoes'. -/
def memoDoesCard : Claim7 := { stood := { row := memoDoesRow, standIns := [], harness := (true, "150b5f815deb7600a8650705a2ea1c4a370cb9ce6c66b3025f62d9c20d048c4a"), looks := false }, kinds := [], alts := [], laidByText := true, laidKinds := [.data, .data, .data], laidTests := true, laidLooks := .later }
def MemoDoesCardSaid : Prop := Claim7.holds Tryz.pinned (.plain (OpenSpec.ofChange memoDoesSpec)) memoDoesCard

/-- THE SECOND FORM's CARD OF 'espalierlaw18.MemoParts'. -/
def memoPartsUptoCard : Claim7 := { stood := { row := memoPartsUptoRow, standIns := [], harness := (true, "150b5f815deb7600a8650705a2ea1c4a370cb9ce6c66b3025f62d9c20d048c4a"), looks := false }, kinds := [], alts := [], laidByText := true, laidKinds := [.data, .data, .data], laidTests := true, laidLooks := .later }
def MemoPartsUptoCardSaid : Prop := Claim7.holds Tryz.pinned (.plain (OpenSpec.upto memoPartsSpec)) memoPartsUptoCard

/-- THE SECOND FORM's CARD OF 'espalierlaw18.MemoOpens'. -/
def memoOpensUptoCard : Claim7 := { stood := { row := memoOpensUptoRow, standIns := [], harness := (true, "150b5f815deb7600a8650705a2ea1c4a370cb9ce6c66b3025f62d9c20d048c4a"), looks := false }, kinds := [], alts := [], laidByText := true, laidKinds := [.data, .data, .data], laidTests := true, laidLooks := .later }
def MemoOpensUptoCardSaid : Prop := Claim7.holds Tryz.pinned (.plain (OpenSpec.upto memoOpensSpec)) memoOpensUptoCard

/-- THE SECOND FORM's CARD OF 'espalierlaw18.MemoCut'. -/
def memoCutUptoCard : Claim7 := { stood := { row := memoCutUptoRow, standIns := [], harness := (true, "150b5f815deb7600a8650705a2ea1c4a370cb9ce6c66b3025f62d9c20d048c4a"), looks := false }, kinds := [], alts := [], laidByText := true, laidKinds := [.data, .data, .data], laidTests := true, laidLooks := .later }
def MemoCutUptoCardSaid : Prop := Claim7.holds Tryz.pinned (.plain (OpenSpec.upto memoCutSpec)) memoCutUptoCard

/-- THE SECOND FORM's CARD OF 'espalierlaw18.MemoNone'. -/
def memoNoneUptoCard : Claim7 := { stood := { row := memoNoneUptoRow, standIns := [], harness := (true, "150b5f815deb7600a8650705a2ea1c4a370cb9ce6c66b3025f62d9c20d048c4a"), looks := false }, kinds := [], alts := [], laidByText := true, laidKinds := [.data, .data, .data], laidTests := true, laidLooks := .later }
def MemoNoneUptoCardSaid : Prop := Claim7.holds Tryz.pinned (.plain (OpenSpec.upto memoNoneSpec)) memoNoneUptoCard

/-- THE SECOND FORM's CARD OF 'espalierlaw18.MemoDoes'. -/
def memoDoesUptoCard : Claim7 := { stood := { row := memoDoesUptoRow, standIns := [], harness := (true, "150b5f815deb7600a8650705a2ea1c4a370cb9ce6c66b3025f62d9c20d048c4a"), looks := false }, kinds := [], alts := [], laidByText := true, laidKinds := [.data, .data, .data], laidTests := true, laidLooks := .later }
def MemoDoesUptoCardSaid : Prop := Claim7.holds Tryz.pinned (.plain (OpenSpec.upto memoDoesSpec)) memoDoesUptoCard
end Rows
end Go.Proofs.YtbbplhpkhholeaaGreatDoor
