/-
  DERIVED. GIVEN WITH THE SEED: THE CARDS: each row of YtgopflklcfcocaaDoorRows.lean that lists a variable, with what it lists TIED to the program's text (the seventh form; the later family's looks); each row that meets fmt, with fmt's text TOLD by the authors' own Lean function (tested against real Go, not proved from fmt's source: count such statements apart). THE CARD IS WHAT COUNTS. Prove the row's statement (the work); the ties are given (YtgopflklcfcocaaDoorTie.lean); close each card by the builder's one call (the guide's Derived/Test/ToyasCard.lean, 'card_holds'). Laid BY PROGRAM, IN A SANDBOX (cutbox-door.mjs). By AI agents, Wed Nov 11 2026. No macro, syntax, notation, axiom, sorry.
-/
import Derived.Test.YtgopflklcfcocaaDoorRows
import GoSem.ClaimSeven
namespace Go.Proofs.YtgopflklcfcocaaDoor
namespace Rows

/-- THE TIED CARD OF 'onceweblaw05.NamesChecks'. -/
def namesChecksCard : Claim7 := { stood := { row := namesChecksRow, standIns := [], harness := (true, "dc8b49f5cb05d94504be78a14bf065c82b514b5a9c31754e10cb15a12f19a19a"), looks := false }, kinds := [], alts := [], laidByText := true, laidKinds := [.widerDeep], laidTests := true, laidLooks := .later }
def NamesChecksCardSaid : Prop := Claim7.holds Tryd.pinned (.plain (OpenSpec.ofChange namesChecksSpec)) namesChecksCard

/-- THE TIED CARD OF 'onceweblaw05.NamesParts'. -/
def namesPartsCard : Claim7 := { stood := { row := namesPartsRow, standIns := [], harness := (true, "dc8b49f5cb05d94504be78a14bf065c82b514b5a9c31754e10cb15a12f19a19a"), looks := false }, kinds := [], alts := [], laidByText := true, laidKinds := [.widerDeep], laidTests := true, laidLooks := .later }
def NamesPartsCardSaid : Prop := Claim7.holds Tryd.pinned (.plain (OpenSpec.ofChange namesPartsSpec)) namesPartsCard

/-- THE TIED CARD OF 'onceweblaw05.NamesAsks'. -/
def namesAsksCard : Claim7 := { stood := { row := namesAsksRow, standIns := [], harness := (true, "dc8b49f5cb05d94504be78a14bf065c82b514b5a9c31754e10cb15a12f19a19a"), looks := false }, kinds := [], alts := [], laidByText := true, laidKinds := [.widerDeep], laidTests := true, laidLooks := .later }
def NamesAsksCardSaid : Prop := Claim7.holds Tryd.pinned (.plain (OpenSpec.ofChange namesAsksSpec)) namesAsksCard

/-- THE TIED CARD OF 'onceweblaw05.NamesRenames'. -/
def namesRenamesCard : Claim7 := { stood := { row := namesRenamesRow, standIns := [], harness := (true, "dc8b49f5cb05d94504be78a14bf065c82b514b5a9c31754e10cb15a12f19a19a"), looks := false }, kinds := [], alts := [], laidByText := true, laidKinds := [.widerDeep], laidTests := true, laidLooks := .later }
def NamesRenamesCardSaid : Prop := Claim7.holds Tryd.pinned (.plain (OpenSpec.ofChange namesRenamesSpec)) namesRenamesCard

/-- THE TIED CARD OF 'onceweblaw05.NamesSets'. -/
def namesSetsCard : Claim7 := { stood := { row := namesSetsRow, standIns := [], harness := (true, "dc8b49f5cb05d94504be78a14bf065c82b514b5a9c31754e10cb15a12f19a19a"), looks := false }, kinds := [], alts := [], laidByText := true, laidKinds := [.widerDeep], laidTests := true, laidLooks := .later }
def NamesSetsCardSaid : Prop := Claim7.holds Tryd.pinned (.plain (OpenSpec.ofChange namesSetsSpec)) namesSetsCard

/-- THE TIED CARD OF 'onceweblaw05.NamesClosures'. -/
def namesClosuresCard : Claim7 := { stood := { row := namesClosuresRow, standIns := [], harness := (true, "dc8b49f5cb05d94504be78a14bf065c82b514b5a9c31754e10cb15a12f19a19a"), looks := false }, kinds := [], alts := [], laidByText := true, laidKinds := [.widerDeep], laidTests := true, laidLooks := .later }
def NamesClosuresCardSaid : Prop := Claim7.holds Tryd.pinned (.plain (OpenSpec.ofChange namesClosuresSpec)) namesClosuresCard

/-- THE TIED CARD OF 'onceweblaw05.NamesCloses'. -/
def namesClosesCard : Claim7 := { stood := { row := namesClosesRow, standIns := [], harness := (true, "dc8b49f5cb05d94504be78a14bf065c82b514b5a9c31754e10cb15a12f19a19a"), looks := false }, kinds := [], alts := [], laidByText := true, laidKinds := [.widerDeep], laidTests := true, laidLooks := .later }
def NamesClosesCardSaid : Prop := Claim7.holds Tryd.pinned (.plain (OpenSpec.ofChange namesClosesSpec)) namesClosesCard

/-- THE TIED CARD OF 'onceweblaw05.NamesOrders'. -/
def namesOrdersCard : Claim7 := { stood := { row := namesOrdersRow, standIns := [], harness := (true, "dc8b49f5cb05d94504be78a14bf065c82b514b5a9c31754e10cb15a12f19a19a"), looks := false }, kinds := [], alts := [], laidByText := true, laidKinds := [.widerDeep], laidTests := true, laidLooks := .later }
def NamesOrdersCardSaid : Prop := Claim7.holds Tryd.pinned (.plain (OpenSpec.ofChange namesOrdersSpec)) namesOrdersCard

/-- THE SECOND FORM's CARD OF 'onceweblaw05.NamesChecks'. -/
def namesChecksUptoCard : Claim7 := { stood := { row := namesChecksUptoRow, standIns := [], harness := (true, "dc8b49f5cb05d94504be78a14bf065c82b514b5a9c31754e10cb15a12f19a19a"), looks := false }, kinds := [], alts := [], laidByText := true, laidKinds := [.widerDeep], laidTests := true, laidLooks := .later }
def NamesChecksUptoCardSaid : Prop := Claim7.holds Tryd.pinned (.plain (OpenSpec.upto namesChecksSpec)) namesChecksUptoCard

/-- THE SECOND FORM's CARD OF 'onceweblaw05.NamesParts'. -/
def namesPartsUptoCard : Claim7 := { stood := { row := namesPartsUptoRow, standIns := [], harness := (true, "dc8b49f5cb05d94504be78a14bf065c82b514b5a9c31754e10cb15a12f19a19a"), looks := false }, kinds := [], alts := [], laidByText := true, laidKinds := [.widerDeep], laidTests := true, laidLooks := .later }
def NamesPartsUptoCardSaid : Prop := Claim7.holds Tryd.pinned (.plain (OpenSpec.upto namesPartsSpec)) namesPartsUptoCard

/-- THE SECOND FORM's CARD OF 'onceweblaw05.NamesAsks'. -/
def namesAsksUptoCard : Claim7 := { stood := { row := namesAsksUptoRow, standIns := [], harness := (true, "dc8b49f5cb05d94504be78a14bf065c82b514b5a9c31754e10cb15a12f19a19a"), looks := false }, kinds := [], alts := [], laidByText := true, laidKinds := [.widerDeep], laidTests := true, laidLooks := .later }
def NamesAsksUptoCardSaid : Prop := Claim7.holds Tryd.pinned (.plain (OpenSpec.upto namesAsksSpec)) namesAsksUptoCard

/-- THE SECOND FORM's CARD OF 'onceweblaw05.NamesRenames'. -/
def namesRenamesUptoCard : Claim7 := { stood := { row := namesRenamesUptoRow, standIns := [], harness := (true, "dc8b49f5cb05d94504be78a14bf065c82b514b5a9c31754e10cb15a12f19a19a"), looks := false }, kinds := [], alts := [], laidByText := true, laidKinds := [.widerDeep], laidTests := true, laidLooks := .later }
def NamesRenamesUptoCardSaid : Prop := Claim7.holds Tryd.pinned (.plain (OpenSpec.upto namesRenamesSpec)) namesRenamesUptoCard

/-- THE SECOND FORM's CARD OF 'onceweblaw05.NamesSets'. -/
def namesSetsUptoCard : Claim7 := { stood := { row := namesSetsUptoRow, standIns := [], harness := (true, "dc8b49f5cb05d94504be78a14bf065c82b514b5a9c31754e10cb15a12f19a19a"), looks := false }, kinds := [], alts := [], laidByText := true, laidKinds := [.widerDeep], laidTests := true, laidLooks := .later }
def NamesSetsUptoCardSaid : Prop := Claim7.holds Tryd.pinned (.plain (OpenSpec.upto namesSetsSpec)) namesSetsUptoCard

/-- THE SECOND FORM's CARD OF 'onceweblaw05.NamesClosures'. -/
def namesClosuresUptoCard : Claim7 := { stood := { row := namesClosuresUptoRow, standIns := [], harness := (true, "dc8b49f5cb05d94504be78a14bf065c82b514b5a9c31754e10cb15a12f19a19a"), looks := false }, kinds := [], alts := [], laidByText := true, laidKinds := [.widerDeep], laidTests := true, laidLooks := .later }
def NamesClosuresUptoCardSaid : Prop := Claim7.holds Tryd.pinned (.plain (OpenSpec.upto namesClosuresSpec)) namesClosuresUptoCard

/-- THE SECOND FORM's CARD OF 'onceweblaw05.NamesCloses'. -/
def namesClosesUptoCard : Claim7 := { stood := { row := namesClosesUptoRow, standIns := [], harness := (true, "dc8b49f5cb05d94504be78a14bf065c82b514b5a9c31754e10cb15a12f19a19a"), looks := false }, kinds := [], alts := [], laidByText := true, laidKinds := [.widerDeep], laidTests := true, laidLooks := .later }
def NamesClosesUptoCardSaid : Prop := Claim7.holds Tryd.pinned (.plain (OpenSpec.upto namesClosesSpec)) namesClosesUptoCard

/-- THE SECOND FORM's CARD OF 'onceweblaw05.NamesOrders'. -/
def namesOrdersUptoCard : Claim7 := { stood := { row := namesOrdersUptoRow, standIns := [], harness := (true, "dc8b49f5cb05d94504be78a14bf065c82b514b5a9c31754e10cb15a12f19a19a"), looks := false }, kinds := [], alts := [], laidByText := true, laidKinds := [.widerDeep], laidTests := true, laidLooks := .later }
def NamesOrdersUptoCardSaid : Prop := Claim7.holds Tryd.pinned (.plain (OpenSpec.upto namesOrdersSpec)) namesOrdersUptoCard
end Rows
end Go.Proofs.YtgopflklcfcocaaDoor
