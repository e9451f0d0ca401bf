/-
  DERIVED. GIVEN WITH THE SEED: THE CARDS: each row of YtonihdgidhflnaaDoorRows.lean that lists a variable, with what it lists TIED to the program's text (the seventh form; the later family's looks); each row that meets fmt, with fmt's text TOLD by the authors' own Lean function (tested against real Go, not proved from fmt's source: count such statements apart). THE CARD IS WHAT COUNTS. Prove the row's statement (the work); the ties are given (YtonihdgidhflnaaDoorTie.lean); close each card by the builder's one call (the guide's Derived/Test/ToyasCard.lean, 'card_holds'). Laid BY PROGRAM, IN A SANDBOX (cutbox-door.mjs). By AI agents, Wed Nov 11 2026. No macro, syntax, notation, axiom, sorry.
-/
import Derived.Test.YtonihdgidhflnaaDoorRows
import GoSem.ClaimSeven
namespace Go.Proofs.YtonihdgidhflnaaDoor
namespace Rows

/-- THE TIED CARD OF 'wristbandlaw14.RecordTurned'. -/
def recordTurnedCard : Claim7 := { stood := { row := recordTurnedRow, standIns := [], harness := (true, "e5bc349fa1282eb0ee48feb17738671883ad3ae30be6bac419a1008a5971b418"), looks := true }, kinds := [], alts := [], laidByText := true, laidKinds := [.handle], laidTests := true, laidLooks := .later }
def RecordTurnedCardSaid : Prop := Claim7.holds Tryd.pinned (.plain (OpenSpec.ofChange recordTurnedSpec)) recordTurnedCard

/-- THE TIED CARD OF 'wristbandlaw14.RecordBack'. -/
def recordBackCard : Claim7 := { stood := { row := recordBackRow, standIns := [], harness := (true, "e5bc349fa1282eb0ee48feb17738671883ad3ae30be6bac419a1008a5971b418"), looks := true }, kinds := [], alts := [], laidByText := true, laidKinds := [.handle], laidTests := true, laidLooks := .later }
def RecordBackCardSaid : Prop := Claim7.holds Tryd.pinned (.plain (OpenSpec.ofChange recordBackSpec)) recordBackCard

/-- THE TIED CARD OF 'wristbandlaw16.BundleFinds'. -/
def bundleFindsCard : Claim7 := { stood := { row := bundleFindsRow, standIns := [], harness := (true, "e5bc349fa1282eb0ee48feb17738671883ad3ae30be6bac419a1008a5971b418"), looks := true }, kinds := [], alts := [], laidByText := true, laidKinds := [.handle], laidTests := true, laidLooks := .later }
def BundleFindsCardSaid : Prop := Claim7.holds Tryd.pinned (.plain (OpenSpec.ofChange bundleFindsSpec)) bundleFindsCard

/-- THE TIED CARD OF 'wristbandlaw16.BundleBack'. -/
def bundleBackCard : Claim7 := { stood := { row := bundleBackRow, standIns := [], harness := (true, "e5bc349fa1282eb0ee48feb17738671883ad3ae30be6bac419a1008a5971b418"), looks := true }, kinds := [], alts := [], laidByText := true, laidKinds := [.handle], laidTests := true, laidLooks := .later }
def BundleBackCardSaid : Prop := Claim7.holds Tryd.pinned (.plain (OpenSpec.ofChange bundleBackSpec)) bundleBackCard

/-- THE SECOND FORM's CARD OF 'wristbandlaw14.RecordTurned'. -/
def recordTurnedUptoCard : Claim7 := { stood := { row := recordTurnedUptoRow, standIns := [], harness := (true, "e5bc349fa1282eb0ee48feb17738671883ad3ae30be6bac419a1008a5971b418"), looks := true }, kinds := [], alts := [], laidByText := true, laidKinds := [.handle], laidTests := true, laidLooks := .later }
def RecordTurnedUptoCardSaid : Prop := Claim7.holds Tryd.pinned (.plain (OpenSpec.upto recordTurnedSpec)) recordTurnedUptoCard

/-- THE SECOND FORM's CARD OF 'wristbandlaw14.RecordBack'. -/
def recordBackUptoCard : Claim7 := { stood := { row := recordBackUptoRow, standIns := [], harness := (true, "e5bc349fa1282eb0ee48feb17738671883ad3ae30be6bac419a1008a5971b418"), looks := true }, kinds := [], alts := [], laidByText := true, laidKinds := [.handle], laidTests := true, laidLooks := .later }
def RecordBackUptoCardSaid : Prop := Claim7.holds Tryd.pinned (.plain (OpenSpec.upto recordBackSpec)) recordBackUptoCard

/-- THE SECOND FORM's CARD OF 'wristbandlaw16.BundleFinds'. -/
def bundleFindsUptoCard : Claim7 := { stood := { row := bundleFindsUptoRow, standIns := [], harness := (true, "e5bc349fa1282eb0ee48feb17738671883ad3ae30be6bac419a1008a5971b418"), looks := true }, kinds := [], alts := [], laidByText := true, laidKinds := [.handle], laidTests := true, laidLooks := .later }
def BundleFindsUptoCardSaid : Prop := Claim7.holds Tryd.pinned (.plain (OpenSpec.upto bundleFindsSpec)) bundleFindsUptoCard

/-- THE SECOND FORM's CARD OF 'wristbandlaw16.BundleBack'. -/
def bundleBackUptoCard : Claim7 := { stood := { row := bundleBackUptoRow, standIns := [], harness := (true, "e5bc349fa1282eb0ee48feb17738671883ad3ae30be6bac419a1008a5971b418"), looks := true }, kinds := [], alts := [], laidByText := true, laidKinds := [.handle], laidTests := true, laidLooks := .later }
def BundleBackUptoCardSaid : Prop := Claim7.holds Tryd.pinned (.plain (OpenSpec.upto bundleBackSpec)) bundleBackUptoCard
end Rows
end Go.Proofs.YtonihdgidhflnaaDoor
