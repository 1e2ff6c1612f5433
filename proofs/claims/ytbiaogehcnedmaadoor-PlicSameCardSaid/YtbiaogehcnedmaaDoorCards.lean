/-
  DERIVED. GIVEN WITH THE SEED: THE CARDS: each row of YtbiaogehcnedmaaDoorRows.lean that lists a variable, with what it lists TIED to the program's text (the seventh form; the later family's looks); each row that meets fmt, with fmt's text TOLD by the authors' own Lean function (tested against real Go, not proved from fmt's source: count such statements apart). THE CARD IS WHAT COUNTS. Prove the row's statement (the work); the ties are given (YtbiaogehcnedmaaDoorTie.lean); close each card by the builder's one call (the guide's Derived/Test/ToyasCard.lean, 'card_holds'). Laid BY PROGRAM, IN A SANDBOX (cutbox-door.mjs). By AI agents, Wed Nov 11 2026. No macro, syntax, notation, axiom, sorry.
-/
import Derived.Test.YtbiaogehcnedmaaDoorRows
import GoSem.ClaimSeven
namespace Go.Proofs.YtbiaogehcnedmaaDoor
namespace Rows

/-- THE TIED CARD OF 'mezzaninelaw06.UartOrder'. -/
def uartOrderCard : Claim7 := { stood := { row := uartOrderRow, standIns := [], harness := (true, "11b5d397f1172dafad06c8e8db9449dbae2d1a74c5fd884da77ec9bbd396702a"), looks := false }, kinds := [], alts := [], laidByText := true, laidKinds := [.data], laidTests := true, laidLooks := .later }
def UartOrderCardSaid : Prop := Claim7.holds Tryd.pinned (.plain (OpenSpec.ofChange uartOrderSpec)) uartOrderCard

/-- THE TIED CARD OF 'mezzaninelaw05.PlicPlays'. -/
def plicPlaysCard : Claim7 := { stood := { row := plicPlaysRow, standIns := [], harness := (true, "11b5d397f1172dafad06c8e8db9449dbae2d1a74c5fd884da77ec9bbd396702a"), looks := false }, kinds := [], alts := [], laidByText := true, laidKinds := [.data], laidTests := true, laidLooks := .later }
def PlicPlaysCardSaid : Prop := Claim7.holds Tryd.pinned (.plain (OpenSpec.ofChange plicPlaysSpec)) plicPlaysCard

/-- THE TIED CARD OF 'mezzaninelaw05.PlicSame'. -/
def plicSameCard : Claim7 := { stood := { row := plicSameRow, standIns := [], harness := (true, "11b5d397f1172dafad06c8e8db9449dbae2d1a74c5fd884da77ec9bbd396702a"), looks := false }, kinds := [], alts := [], laidByText := true, laidKinds := [.data], laidTests := true, laidLooks := .later }
def PlicSameCardSaid : Prop := Claim7.holds Tryd.pinned (.plain (OpenSpec.ofChange plicSameSpec)) plicSameCard

/-- THE SECOND FORM's CARD OF 'mezzaninelaw06.UartOrder'. -/
def uartOrderUptoCard : Claim7 := { stood := { row := uartOrderUptoRow, standIns := [], harness := (true, "11b5d397f1172dafad06c8e8db9449dbae2d1a74c5fd884da77ec9bbd396702a"), looks := false }, kinds := [], alts := [], laidByText := true, laidKinds := [.data], laidTests := true, laidLooks := .later }
def UartOrderUptoCardSaid : Prop := Claim7.holds Tryd.pinned (.plain (OpenSpec.upto uartOrderSpec)) uartOrderUptoCard

/-- THE SECOND FORM's CARD OF 'mezzaninelaw05.PlicPlays'. -/
def plicPlaysUptoCard : Claim7 := { stood := { row := plicPlaysUptoRow, standIns := [], harness := (true, "11b5d397f1172dafad06c8e8db9449dbae2d1a74c5fd884da77ec9bbd396702a"), looks := false }, kinds := [], alts := [], laidByText := true, laidKinds := [.data], laidTests := true, laidLooks := .later }
def PlicPlaysUptoCardSaid : Prop := Claim7.holds Tryd.pinned (.plain (OpenSpec.upto plicPlaysSpec)) plicPlaysUptoCard

/-- THE SECOND FORM's CARD OF 'mezzaninelaw05.PlicSame'. -/
def plicSameUptoCard : Claim7 := { stood := { row := plicSameUptoRow, standIns := [], harness := (true, "11b5d397f1172dafad06c8e8db9449dbae2d1a74c5fd884da77ec9bbd396702a"), looks := false }, kinds := [], alts := [], laidByText := true, laidKinds := [.data], laidTests := true, laidLooks := .later }
def PlicSameUptoCardSaid : Prop := Claim7.holds Tryd.pinned (.plain (OpenSpec.upto plicSameSpec)) plicSameUptoCard
end Rows
end Go.Proofs.YtbiaogehcnedmaaDoor
