/-
  DERIVED. GIVEN WITH THE SEED: THE CARDS: each row of YtgkopheekihkjaaDoorRows.lean that lists a variable, with what it lists TIED to the program's text (the seventh form; the later family's looks); each row that meets fmt, with fmt's text TOLD by the authors' own Lean function (tested against real Go, not proved from fmt's source: count such statements apart). THE CARD IS WHAT COUNTS. Prove the row's statement (the work); the ties are given (YtgkopheekihkjaaDoorTie.lean); close each card by the builder's one call (the guide's Derived/Test/ToyasCard.lean, 'card_holds'). Laid BY PROGRAM, IN A SANDBOX (cutbox-door.mjs). By AI agents, Wed Nov 11 2026. No macro, syntax, notation, axiom, sorry.
-/
import Derived.Test.YtgkopheekihkjaaDoorRows
import GoSem.ClaimSeven
namespace Go.Proofs.YtgkopheekihkjaaDoor
namespace Rows

/-- THE TIED CARD OF 'parleylaw26.SignalOnce'. -/
def signalOnceCard : Claim7 := { stood := { row := signalOnceRow, standIns := [], harness := (true, "79b2e8c27ec8996684995bcd301e156896f0f84537240a674fb2facbb0f88a3c"), looks := true }, kinds := [], alts := [], laidByText := true, laidKinds := [.data, .pinned], laidTests := true, laidLooks := .later }
def SignalOnceCardSaid : Prop := Claim7.holds Tryd.pinned (.plain (OpenSpec.ofChange signalOnceSpec)) signalOnceCard

/-- THE TIED CARD OF 'parleylaw26.SignalLeft'. -/
def signalLeftCard : Claim7 := { stood := { row := signalLeftRow, standIns := [], harness := (true, "79b2e8c27ec8996684995bcd301e156896f0f84537240a674fb2facbb0f88a3c"), looks := true }, kinds := [], alts := [], laidByText := true, laidKinds := [.data, .pinned], laidTests := true, laidLooks := .later }
def SignalLeftCardSaid : Prop := Claim7.holds Tryd.pinned (.plain (OpenSpec.ofChange signalLeftSpec)) signalLeftCard

/-- THE TIED CARD OF 'parleylaw20.GrantDemands'. -/
def grantDemandsCard : Claim7 := { stood := { row := grantDemandsRow, standIns := [], harness := (true, "79b2e8c27ec8996684995bcd301e156896f0f84537240a674fb2facbb0f88a3c"), looks := true }, kinds := [], alts := [], laidByText := true, laidKinds := [.data, .pinned], laidTests := true, laidLooks := .later }
def GrantDemandsCardSaid : Prop := Claim7.holds Tryd.pinned (.plain (OpenSpec.ofChange grantDemandsSpec)) grantDemandsCard

/-- THE TIED CARD OF 'parleylaw20.GrantTail'. -/
def grantTailCard : Claim7 := { stood := { row := grantTailRow, standIns := [], harness := (true, "79b2e8c27ec8996684995bcd301e156896f0f84537240a674fb2facbb0f88a3c"), looks := true }, kinds := [], alts := [], laidByText := true, laidKinds := [.data, .pinned], laidTests := true, laidLooks := .later }
def GrantTailCardSaid : Prop := Claim7.holds Tryd.pinned (.plain (OpenSpec.ofChange grantTailSpec)) grantTailCard

/-- THE TIED CARD OF 'parleylaw20.GrantWithout'. -/
def grantWithoutCard : Claim7 := { stood := { row := grantWithoutRow, standIns := [], harness := (true, "79b2e8c27ec8996684995bcd301e156896f0f84537240a674fb2facbb0f88a3c"), looks := true }, kinds := [], alts := [], laidByText := true, laidKinds := [.data, .pinned], laidTests := true, laidLooks := .later }
def GrantWithoutCardSaid : Prop := Claim7.holds Tryd.pinned (.plain (OpenSpec.ofChange grantWithoutSpec)) grantWithoutCard

/-- THE TIED CARD OF 'parleylaw20.GrantLines'. -/
def grantLinesCard : Claim7 := { stood := { row := grantLinesRow, standIns := [], harness := (true, "79b2e8c27ec8996684995bcd301e156896f0f84537240a674fb2facbb0f88a3c"), looks := true }, kinds := [], alts := [], laidByText := true, laidKinds := [.data, .pinned], laidTests := true, laidLooks := .later }
def GrantLinesCardSaid : Prop := Claim7.holds Tryd.pinned (.plain (OpenSpec.ofChange grantLinesSpec)) grantLinesCard

/-- THE SECOND FORM's CARD OF 'parleylaw26.SignalOnce'. -/
def signalOnceUptoCard : Claim7 := { stood := { row := signalOnceUptoRow, standIns := [], harness := (true, "79b2e8c27ec8996684995bcd301e156896f0f84537240a674fb2facbb0f88a3c"), looks := true }, kinds := [], alts := [], laidByText := true, laidKinds := [.data, .pinned], laidTests := true, laidLooks := .later }
def SignalOnceUptoCardSaid : Prop := Claim7.holds Tryd.pinned (.plain (OpenSpec.upto signalOnceSpec)) signalOnceUptoCard

/-- THE SECOND FORM's CARD OF 'parleylaw26.SignalLeft'. -/
def signalLeftUptoCard : Claim7 := { stood := { row := signalLeftUptoRow, standIns := [], harness := (true, "79b2e8c27ec8996684995bcd301e156896f0f84537240a674fb2facbb0f88a3c"), looks := true }, kinds := [], alts := [], laidByText := true, laidKinds := [.data, .pinned], laidTests := true, laidLooks := .later }
def SignalLeftUptoCardSaid : Prop := Claim7.holds Tryd.pinned (.plain (OpenSpec.upto signalLeftSpec)) signalLeftUptoCard

/-- THE SECOND FORM's CARD OF 'parleylaw20.GrantDemands'. -/
def grantDemandsUptoCard : Claim7 := { stood := { row := grantDemandsUptoRow, standIns := [], harness := (true, "79b2e8c27ec8996684995bcd301e156896f0f84537240a674fb2facbb0f88a3c"), looks := true }, kinds := [], alts := [], laidByText := true, laidKinds := [.data, .pinned], laidTests := true, laidLooks := .later }
def GrantDemandsUptoCardSaid : Prop := Claim7.holds Tryd.pinned (.plain (OpenSpec.upto grantDemandsSpec)) grantDemandsUptoCard

/-- THE SECOND FORM's CARD OF 'parleylaw20.GrantTail'. -/
def grantTailUptoCard : Claim7 := { stood := { row := grantTailUptoRow, standIns := [], harness := (true, "79b2e8c27ec8996684995bcd301e156896f0f84537240a674fb2facbb0f88a3c"), looks := true }, kinds := [], alts := [], laidByText := true, laidKinds := [.data, .pinned], laidTests := true, laidLooks := .later }
def GrantTailUptoCardSaid : Prop := Claim7.holds Tryd.pinned (.plain (OpenSpec.upto grantTailSpec)) grantTailUptoCard

/-- THE SECOND FORM's CARD OF 'parleylaw20.GrantWithout'. -/
def grantWithoutUptoCard : Claim7 := { stood := { row := grantWithoutUptoRow, standIns := [], harness := (true, "79b2e8c27ec8996684995bcd301e156896f0f84537240a674fb2facbb0f88a3c"), looks := true }, kinds := [], alts := [], laidByText := true, laidKinds := [.data, .pinned], laidTests := true, laidLooks := .later }
def GrantWithoutUptoCardSaid : Prop := Claim7.holds Tryd.pinned (.plain (OpenSpec.upto grantWithoutSpec)) grantWithoutUptoCard

/-- THE SECOND FORM's CARD OF 'parleylaw20.GrantLines'. -/
def grantLinesUptoCard : Claim7 := { stood := { row := grantLinesUptoRow, standIns := [], harness := (true, "79b2e8c27ec8996684995bcd301e156896f0f84537240a674fb2facbb0f88a3c"), looks := true }, kinds := [], alts := [], laidByText := true, laidKinds := [.data, .pinned], laidTests := true, laidLooks := .later }
def GrantLinesUptoCardSaid : Prop := Claim7.holds Tryd.pinned (.plain (OpenSpec.upto grantLinesSpec)) grantLinesUptoCard
end Rows
end Go.Proofs.YtgkopheekihkjaaDoor
