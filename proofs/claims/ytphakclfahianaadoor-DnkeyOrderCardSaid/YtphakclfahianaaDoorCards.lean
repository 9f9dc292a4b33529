/-
  DERIVED. GIVEN WITH THE SEED: THE CARDS: each row of YtphakclfahianaaDoorRows.lean that lists a variable, with what it lists TIED to the program's text (the seventh form; the later family's looks); each row that meets fmt, with fmt's text TOLD by the authors' own Lean function (tested against real Go, not proved from fmt's source: count such statements apart). THE CARD IS WHAT COUNTS. Prove the row's statement (the work); the ties are given (YtphakclfahianaaDoorTie.lean); close each card by the builder's one call (the guide's Derived/Test/ToyasCard.lean, 'card_holds'). Laid BY PROGRAM, IN A SANDBOX (cutbox-door.mjs). By AI agents, Wed Nov 11 2026. No macro, syntax, notation, axiom, sorry.
-/
import Derived.Test.YtphakclfahianaaDoorRows
import GoSem.ClaimSeven
namespace Go.Proofs.YtphakclfahianaaDoor
namespace Rows

/-- THE TIED CARD OF 'burgesslaw19.DnkeyOrder'. -/
def dnkeyOrderCard : Claim7 := { stood := { row := dnkeyOrderRow, standIns := [], harness := (true, "6b2882183fe57f6d6f7574432939dcec7020ce8ed896a6cf0e4698a79c18b2d5"), looks := false }, kinds := [], alts := [], laidByText := true, laidKinds := [.data, .pinned], laidTests := true, laidLooks := .later }
def DnkeyOrderCardSaid : Prop := Claim7.holds Tryd.pinned (.plain (OpenSpec.ofChange dnkeyOrderSpec)) dnkeyOrderCard

/-- THE TIED CARD OF 'burgesslaw19.DnkeyBack'. -/
def dnkeyBackCard : Claim7 := { stood := { row := dnkeyBackRow, standIns := [], harness := (true, "6b2882183fe57f6d6f7574432939dcec7020ce8ed896a6cf0e4698a79c18b2d5"), looks := false }, kinds := [], alts := [], laidByText := true, laidKinds := [.data, .pinned], laidTests := true, laidLooks := .later }
def DnkeyBackCardSaid : Prop := Claim7.holds Tryd.pinned (.plain (OpenSpec.ofChange dnkeyBackSpec)) dnkeyBackCard

/-- THE TIED CARD OF 'burgesslaw19.DnkeyKeys'. -/
def dnkeyKeysCard : Claim7 := { stood := { row := dnkeyKeysRow, standIns := [], harness := (true, "6b2882183fe57f6d6f7574432939dcec7020ce8ed896a6cf0e4698a79c18b2d5"), looks := false }, kinds := [], alts := [], laidByText := true, laidKinds := [.data, .pinned], laidTests := true, laidLooks := .later }
def DnkeyKeysCardSaid : Prop := Claim7.holds Tryd.pinned (.plain (OpenSpec.ofChange dnkeyKeysSpec)) dnkeyKeysCard

/-- THE SECOND FORM's CARD OF 'burgesslaw19.DnkeyOrder'. -/
def dnkeyOrderUptoCard : Claim7 := { stood := { row := dnkeyOrderUptoRow, standIns := [], harness := (true, "6b2882183fe57f6d6f7574432939dcec7020ce8ed896a6cf0e4698a79c18b2d5"), looks := false }, kinds := [], alts := [], laidByText := true, laidKinds := [.data, .pinned], laidTests := true, laidLooks := .later }
def DnkeyOrderUptoCardSaid : Prop := Claim7.holds Tryd.pinned (.plain (OpenSpec.upto dnkeyOrderSpec)) dnkeyOrderUptoCard

/-- THE SECOND FORM's CARD OF 'burgesslaw19.DnkeyBack'. -/
def dnkeyBackUptoCard : Claim7 := { stood := { row := dnkeyBackUptoRow, standIns := [], harness := (true, "6b2882183fe57f6d6f7574432939dcec7020ce8ed896a6cf0e4698a79c18b2d5"), looks := false }, kinds := [], alts := [], laidByText := true, laidKinds := [.data, .pinned], laidTests := true, laidLooks := .later }
def DnkeyBackUptoCardSaid : Prop := Claim7.holds Tryd.pinned (.plain (OpenSpec.upto dnkeyBackSpec)) dnkeyBackUptoCard

/-- THE SECOND FORM's CARD OF 'burgesslaw19.DnkeyKeys'. -/
def dnkeyKeysUptoCard : Claim7 := { stood := { row := dnkeyKeysUptoRow, standIns := [], harness := (true, "6b2882183fe57f6d6f7574432939dcec7020ce8ed896a6cf0e4698a79c18b2d5"), looks := false }, kinds := [], alts := [], laidByText := true, laidKinds := [.data, .pinned], laidTests := true, laidLooks := .later }
def DnkeyKeysUptoCardSaid : Prop := Claim7.holds Tryd.pinned (.plain (OpenSpec.upto dnkeyKeysSpec)) dnkeyKeysUptoCard
end Rows
end Go.Proofs.YtphakclfahianaaDoor
