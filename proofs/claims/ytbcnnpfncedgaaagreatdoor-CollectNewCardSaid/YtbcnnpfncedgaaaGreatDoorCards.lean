/-
  DERIVED. GIVEN WITH THE SEED: THE CARDS: each row of YtbcnnpfncedgaaaGreatDoorRows.lean that lists a variable, with what it lists TIED to the program's text (the seventh form; the later family's looks); each row that meets fmt, with fmt's text TOLD by the authors' own Lean function (tested against real Go, not proved from fmt's source: count such statements apart). THE CARD IS WHAT COUNTS. Prove the row's statement (the work); the ties are given (YtbcnnpfncedgaaaGreatDoorTie.lean); close each card by the builder's one call (the guide's Derived/Test/ToyasCard.lean, 'card_holds'). Laid BY PROGRAM, IN A SANDBOX (cutbox-door.mjs). By AI agents, Wed Nov 11 2026. No macro, syntax, notation, axiom, sorry.
-/
import Derived.Test.YtbcnnpfncedgaaaGreatDoorRows
import GoSem.ClaimSeven
namespace Go.Proofs.YtbcnnpfncedgaaaGreatDoor
namespace Rows

/-- THE TIED CARD OF 'windrowlaw12.TlabSteps'. -/
def tlabStepsCard : Claim7 := { stood := { row := tlabStepsRow, standIns := [], harness := (true, "991f817070c98f3e9a7ac23302b8adc10c52913a6842dbb84043f5291ef9140d"), looks := false }, kinds := [], alts := [], laidByText := true, laidKinds := [.data, .data], laidTests := true, laidLooks := .later }
def TlabStepsCardSaid : Prop := Claim7.holds Tryz.pinned (.plain (OpenSpec.ofChange tlabStepsSpec)) tlabStepsCard

/-- THE TIED CARD OF 'windrowlaw12.TlabFull'. -/
def tlabFullCard : Claim7 := { stood := { row := tlabFullRow, standIns := [], harness := (true, "991f817070c98f3e9a7ac23302b8adc10c52913a6842dbb84043f5291ef9140d"), looks := false }, kinds := [], alts := [], laidByText := true, laidKinds := [.data, .data], laidTests := true, laidLooks := .later }
def TlabFullCardSaid : Prop := Claim7.holds Tryz.pinned (.plain (OpenSpec.ofChange tlabFullSpec)) tlabFullCard

/-- THE TIED CARD OF 'windrowlaw12.TlabApart'. -/
def tlabApartCard : Claim7 := { stood := { row := tlabApartRow, standIns := [], harness := (true, "991f817070c98f3e9a7ac23302b8adc10c52913a6842dbb84043f5291ef9140d"), looks := false }, kinds := [], alts := [], laidByText := true, laidKinds := [.data, .data], laidTests := true, laidLooks := .later }
def TlabApartCardSaid : Prop := Claim7.holds Tryz.pinned (.plain (OpenSpec.ofChange tlabApartSpec)) tlabApartCard

/-- THE TIED CARD OF 'windrowlaw12.TlabColours'. -/
def tlabColoursCard : Claim7 := { stood := { row := tlabColoursRow, standIns := [], harness := (true, "991f817070c98f3e9a7ac23302b8adc10c52913a6842dbb84043f5291ef9140d"), looks := false }, kinds := [], alts := [], laidByText := true, laidKinds := [.data, .data], laidTests := true, laidLooks := .later }
def TlabColoursCardSaid : Prop := Claim7.holds Tryz.pinned (.plain (OpenSpec.ofChange tlabColoursSpec)) tlabColoursCard

/-- THE TIED CARD OF 'windrowlaw20.CollectRests'. -/
def collectRestsCard : Claim7 := { stood := { row := collectRestsRow, standIns := [], harness := (true, "991f817070c98f3e9a7ac23302b8adc10c52913a6842dbb84043f5291ef9140d"), looks := false }, kinds := [], alts := [], laidByText := true, laidKinds := [.data], laidTests := true, laidLooks := .later }
def CollectRestsCardSaid : Prop := Claim7.holds Tryz.pinned (.plain (OpenSpec.ofChange collectRestsSpec)) collectRestsCard

/-- THE TIED CARD OF 'windrowlaw12.TlabRetires'. -/
def tlabRetiresCard : Claim7 := { stood := { row := tlabRetiresRow, standIns := [], harness := (true, "991f817070c98f3e9a7ac23302b8adc10c52913a6842dbb84043f5291ef9140d"), looks := false }, kinds := [], alts := [], laidByText := true, laidKinds := [.data, .data], laidTests := true, laidLooks := .later }
def TlabRetiresCardSaid : Prop := Claim7.holds Tryz.pinned (.plain (OpenSpec.ofChange tlabRetiresSpec)) tlabRetiresCard

/-- THE TIED CARD OF 'windrowlaw20.CollectNew'. -/
def collectNewCard : Claim7 := { stood := { row := collectNewRow, standIns := [], harness := (true, "991f817070c98f3e9a7ac23302b8adc10c52913a6842dbb84043f5291ef9140d"), looks := false }, kinds := [], alts := [], laidByText := true, laidKinds := [.data], laidTests := true, laidLooks := .later }
def CollectNewCardSaid : Prop := Claim7.holds Tryz.pinned (.plain (OpenSpec.ofChange collectNewSpec)) collectNewCard

/-- THE SECOND FORM's CARD OF 'windrowlaw12.TlabSteps'. -/
def tlabStepsUptoCard : Claim7 := { stood := { row := tlabStepsUptoRow, standIns := [], harness := (true, "991f817070c98f3e9a7ac23302b8adc10c52913a6842dbb84043f5291ef9140d"), looks := false }, kinds := [], alts := [], laidByText := true, laidKinds := [.data, .data], laidTests := true, laidLooks := .later }
def TlabStepsUptoCardSaid : Prop := Claim7.holds Tryz.pinned (.plain (OpenSpec.upto tlabStepsSpec)) tlabStepsUptoCard

/-- THE SECOND FORM's CARD OF 'windrowlaw12.TlabFull'. -/
def tlabFullUptoCard : Claim7 := { stood := { row := tlabFullUptoRow, standIns := [], harness := (true, "991f817070c98f3e9a7ac23302b8adc10c52913a6842dbb84043f5291ef9140d"), looks := false }, kinds := [], alts := [], laidByText := true, laidKinds := [.data, .data], laidTests := true, laidLooks := .later }
def TlabFullUptoCardSaid : Prop := Claim7.holds Tryz.pinned (.plain (OpenSpec.upto tlabFullSpec)) tlabFullUptoCard

/-- THE SECOND FORM's CARD OF 'windrowlaw12.TlabApart'. -/
def tlabApartUptoCard : Claim7 := { stood := { row := tlabApartUptoRow, standIns := [], harness := (true, "991f817070c98f3e9a7ac23302b8adc10c52913a6842dbb84043f5291ef9140d"), looks := false }, kinds := [], alts := [], laidByText := true, laidKinds := [.data, .data], laidTests := true, laidLooks := .later }
def TlabApartUptoCardSaid : Prop := Claim7.holds Tryz.pinned (.plain (OpenSpec.upto tlabApartSpec)) tlabApartUptoCard

/-- THE SECOND FORM's CARD OF 'windrowlaw12.TlabColours'. -/
def tlabColoursUptoCard : Claim7 := { stood := { row := tlabColoursUptoRow, standIns := [], harness := (true, "991f817070c98f3e9a7ac23302b8adc10c52913a6842dbb84043f5291ef9140d"), looks := false }, kinds := [], alts := [], laidByText := true, laidKinds := [.data, .data], laidTests := true, laidLooks := .later }
def TlabColoursUptoCardSaid : Prop := Claim7.holds Tryz.pinned (.plain (OpenSpec.upto tlabColoursSpec)) tlabColoursUptoCard

/-- THE SECOND FORM's CARD OF 'windrowlaw20.CollectRests'. -/
def collectRestsUptoCard : Claim7 := { stood := { row := collectRestsUptoRow, standIns := [], harness := (true, "991f817070c98f3e9a7ac23302b8adc10c52913a6842dbb84043f5291ef9140d"), looks := false }, kinds := [], alts := [], laidByText := true, laidKinds := [.data], laidTests := true, laidLooks := .later }
def CollectRestsUptoCardSaid : Prop := Claim7.holds Tryz.pinned (.plain (OpenSpec.upto collectRestsSpec)) collectRestsUptoCard

/-- THE SECOND FORM's CARD OF 'windrowlaw12.TlabRetires'. -/
def tlabRetiresUptoCard : Claim7 := { stood := { row := tlabRetiresUptoRow, standIns := [], harness := (true, "991f817070c98f3e9a7ac23302b8adc10c52913a6842dbb84043f5291ef9140d"), looks := false }, kinds := [], alts := [], laidByText := true, laidKinds := [.data, .data], laidTests := true, laidLooks := .later }
def TlabRetiresUptoCardSaid : Prop := Claim7.holds Tryz.pinned (.plain (OpenSpec.upto tlabRetiresSpec)) tlabRetiresUptoCard

/-- THE SECOND FORM's CARD OF 'windrowlaw20.CollectNew'. -/
def collectNewUptoCard : Claim7 := { stood := { row := collectNewUptoRow, standIns := [], harness := (true, "991f817070c98f3e9a7ac23302b8adc10c52913a6842dbb84043f5291ef9140d"), looks := false }, kinds := [], alts := [], laidByText := true, laidKinds := [.data], laidTests := true, laidLooks := .later }
def CollectNewUptoCardSaid : Prop := Claim7.holds Tryz.pinned (.plain (OpenSpec.upto collectNewSpec)) collectNewUptoCard
end Rows
end Go.Proofs.YtbcnnpfncedgaaaGreatDoor
