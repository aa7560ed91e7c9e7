/-
  DERIVED. GIVEN WITH THE SEED: THE CARDS: each row of YtofmdmmgbfbaoaaDoorRows.lean that lists a variable, with what it lists TIED to the program's text (the seventh form; the later family's looks); each row that meets fmt, with fmt's text TOLD by the authors' own Lean function (tested against real Go, not proved from fmt's source: count such statements apart). THE CARD IS WHAT COUNTS. Prove the row's statement (the work); the ties are given (YtofmdmmgbfbaoaaDoorTie.lean); close each card by the builder's one call (the guide's Derived/Test/ToyasCard.lean, 'card_holds'). Laid BY PROGRAM, IN A SANDBOX (cutbox-door.mjs). By AI agents, Wed Nov 11 2026. No macro, syntax, notation, axiom, sorry.
-/
import Derived.Test.YtofmdmmgbfbaoaaDoorRows
import GoSem.ClaimSeven
namespace Go.Proofs.YtofmdmmgbfbaoaaDoor
namespace Rows

/-- THE TIED CARD OF 'onceweblaw17.RegistryKeeps'. -/
def registryKeepsCard : Claim7 := { stood := { row := registryKeepsRow, standIns := [], harness := (true, "51de48d91e7953564713d05fcad22f342e4ba74148a99b50411b70e0c2da531d"), looks := true }, kinds := [], alts := [], laidByText := true, laidKinds := [.widerDeep], laidTests := true, laidLooks := .later }
def RegistryKeepsCardSaid : Prop := Claim7.holds Tryd.pinned (.plain (OpenSpec.ofChange registryKeepsSpec)) registryKeepsCard

/-- THE TIED CARD OF 'onceweblaw17.RegistryPlays'. -/
def registryPlaysCard : Claim7 := { stood := { row := registryPlaysRow, standIns := [], harness := (true, "51de48d91e7953564713d05fcad22f342e4ba74148a99b50411b70e0c2da531d"), looks := true }, kinds := [], alts := [], laidByText := true, laidKinds := [.widerDeep], laidTests := true, laidLooks := .later }
def RegistryPlaysCardSaid : Prop := Claim7.holds Tryd.pinned (.plain (OpenSpec.ofChange registryPlaysSpec)) registryPlaysCard

/-- THE TIED CARD OF 'onceweblaw17.RegistryGoes'. -/
def registryGoesCard : Claim7 := { stood := { row := registryGoesRow, standIns := [], harness := (true, "51de48d91e7953564713d05fcad22f342e4ba74148a99b50411b70e0c2da531d"), looks := true }, kinds := [], alts := [], laidByText := true, laidKinds := [.widerDeep], laidTests := true, laidLooks := .later }
def RegistryGoesCardSaid : Prop := Claim7.holds Tryd.pinned (.plain (OpenSpec.ofChange registryGoesSpec)) registryGoesCard

/-- THE SECOND FORM's CARD OF 'onceweblaw17.RegistryKeeps'. -/
def registryKeepsUptoCard : Claim7 := { stood := { row := registryKeepsUptoRow, standIns := [], harness := (true, "51de48d91e7953564713d05fcad22f342e4ba74148a99b50411b70e0c2da531d"), looks := true }, kinds := [], alts := [], laidByText := true, laidKinds := [.widerDeep], laidTests := true, laidLooks := .later }
def RegistryKeepsUptoCardSaid : Prop := Claim7.holds Tryd.pinned (.plain (OpenSpec.upto registryKeepsSpec)) registryKeepsUptoCard

/-- THE SECOND FORM's CARD OF 'onceweblaw17.RegistryPlays'. -/
def registryPlaysUptoCard : Claim7 := { stood := { row := registryPlaysUptoRow, standIns := [], harness := (true, "51de48d91e7953564713d05fcad22f342e4ba74148a99b50411b70e0c2da531d"), looks := true }, kinds := [], alts := [], laidByText := true, laidKinds := [.widerDeep], laidTests := true, laidLooks := .later }
def RegistryPlaysUptoCardSaid : Prop := Claim7.holds Tryd.pinned (.plain (OpenSpec.upto registryPlaysSpec)) registryPlaysUptoCard

/-- THE SECOND FORM's CARD OF 'onceweblaw17.RegistryGoes'. -/
def registryGoesUptoCard : Claim7 := { stood := { row := registryGoesUptoRow, standIns := [], harness := (true, "51de48d91e7953564713d05fcad22f342e4ba74148a99b50411b70e0c2da531d"), looks := true }, kinds := [], alts := [], laidByText := true, laidKinds := [.widerDeep], laidTests := true, laidLooks := .later }
def RegistryGoesUptoCardSaid : Prop := Claim7.holds Tryd.pinned (.plain (OpenSpec.upto registryGoesSpec)) registryGoesUptoCard
end Rows
end Go.Proofs.YtofmdmmgbfbaoaaDoor
