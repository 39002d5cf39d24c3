/-
  DERIVED. GIVEN WITH THE SEED: THE CARDS: each row of YtgnhkgobocmkoaaDoorRows.lean that lists a variable, with what it lists TIED to the program's text (the seventh form; the later family's looks); each row that meets fmt, with fmt's text TOLD by the authors' own Lean function (tested against real Go, not proved from fmt's source: count such statements apart). THE CARD IS WHAT COUNTS. Prove the row's statement (the work); the ties are given (YtgnhkgobocmkoaaDoorTie.lean); close each card by the builder's one call (the guide's Derived/Test/ToyasCard.lean, 'card_holds'). Laid BY PROGRAM, IN A SANDBOX (cutbox-door.mjs). By AI agents, Wed Nov 11 2026. No macro, syntax, notation, axiom, sorry.
-/
import Derived.Test.YtgnhkgobocmkoaaDoorRows
import GoSem.ClaimSeven
namespace Go.Proofs.YtgnhkgobocmkoaaDoor
namespace Rows

/-- THE TIED CARD OF 'chinoiserielaw11.PushPatches'. -/
def pushPatchesCard : Claim7 := { stood := { row := pushPatchesRow, standIns := [], harness := (true, "105c50b84ad81bd704313035dc51797e2be891ca5f7e27d22d9f49636015acf6"), looks := false }, kinds := [], alts := [], laidByText := true, laidKinds := [.data, .pinned], laidTests := true, laidLooks := .later }
def PushPatchesCardSaid : Prop := Claim7.holds Tryd.pinned (.plain (OpenSpec.ofChange pushPatchesSpec)) pushPatchesCard

/-- THE TIED CARD OF 'chinoiserielaw11.PushDiffs'. -/
def pushDiffsCard : Claim7 := { stood := { row := pushDiffsRow, standIns := [], harness := (true, "105c50b84ad81bd704313035dc51797e2be891ca5f7e27d22d9f49636015acf6"), looks := false }, kinds := [], alts := [], laidByText := true, laidKinds := [.data, .pinned], laidTests := true, laidLooks := .later }
def PushDiffsCardSaid : Prop := Claim7.holds Tryd.pinned (.plain (OpenSpec.ofChange pushDiffsSpec)) pushDiffsCard

/-- THE TIED CARD OF 'chinoiserielaw11.PushWrites'. -/
def pushWritesCard : Claim7 := { stood := { row := pushWritesRow, standIns := [], harness := (true, "105c50b84ad81bd704313035dc51797e2be891ca5f7e27d22d9f49636015acf6"), looks := false }, kinds := [], alts := [], laidByText := true, laidKinds := [.data, .pinned], laidTests := true, laidLooks := .later }
def PushWritesCardSaid : Prop := Claim7.holds Tryd.pinned (.plain (OpenSpec.ofChange pushWritesSpec)) pushWritesCard

/-- THE TIED CARD OF 'chinoiserielaw11.PushKnown'. -/
def pushKnownCard : Claim7 := { stood := { row := pushKnownRow, standIns := [], harness := (true, "105c50b84ad81bd704313035dc51797e2be891ca5f7e27d22d9f49636015acf6"), looks := false }, kinds := [], alts := [], laidByText := true, laidKinds := [.data, .pinned], laidTests := true, laidLooks := .later }
def PushKnownCardSaid : Prop := Claim7.holds Tryd.pinned (.plain (OpenSpec.ofChange pushKnownSpec)) pushKnownCard

/-- THE SECOND FORM's CARD OF 'chinoiserielaw11.PushPatches'. -/
def pushPatchesUptoCard : Claim7 := { stood := { row := pushPatchesUptoRow, standIns := [], harness := (true, "105c50b84ad81bd704313035dc51797e2be891ca5f7e27d22d9f49636015acf6"), looks := false }, kinds := [], alts := [], laidByText := true, laidKinds := [.data, .pinned], laidTests := true, laidLooks := .later }
def PushPatchesUptoCardSaid : Prop := Claim7.holds Tryd.pinned (.plain (OpenSpec.upto pushPatchesSpec)) pushPatchesUptoCard

/-- THE SECOND FORM's CARD OF 'chinoiserielaw11.PushDiffs'. -/
def pushDiffsUptoCard : Claim7 := { stood := { row := pushDiffsUptoRow, standIns := [], harness := (true, "105c50b84ad81bd704313035dc51797e2be891ca5f7e27d22d9f49636015acf6"), looks := false }, kinds := [], alts := [], laidByText := true, laidKinds := [.data, .pinned], laidTests := true, laidLooks := .later }
def PushDiffsUptoCardSaid : Prop := Claim7.holds Tryd.pinned (.plain (OpenSpec.upto pushDiffsSpec)) pushDiffsUptoCard

/-- THE SECOND FORM's CARD OF 'chinoiserielaw11.PushWrites'. -/
def pushWritesUptoCard : Claim7 := { stood := { row := pushWritesUptoRow, standIns := [], harness := (true, "105c50b84ad81bd704313035dc51797e2be891ca5f7e27d22d9f49636015acf6"), looks := false }, kinds := [], alts := [], laidByText := true, laidKinds := [.data, .pinned], laidTests := true, laidLooks := .later }
def PushWritesUptoCardSaid : Prop := Claim7.holds Tryd.pinned (.plain (OpenSpec.upto pushWritesSpec)) pushWritesUptoCard

/-- THE SECOND FORM's CARD OF 'chinoiserielaw11.PushKnown'. -/
def pushKnownUptoCard : Claim7 := { stood := { row := pushKnownUptoRow, standIns := [], harness := (true, "105c50b84ad81bd704313035dc51797e2be891ca5f7e27d22d9f49636015acf6"), looks := false }, kinds := [], alts := [], laidByText := true, laidKinds := [.data, .pinned], laidTests := true, laidLooks := .later }
def PushKnownUptoCardSaid : Prop := Claim7.holds Tryd.pinned (.plain (OpenSpec.upto pushKnownSpec)) pushKnownUptoCard
end Rows
end Go.Proofs.YtgnhkgobocmkoaaDoor
