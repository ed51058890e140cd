/-
  DERIVED. GIVEN WITH THE SEED: THE CARDS: each row of YtilipgopjiokfaaGreatDoorRows.lean that lists a variable, with what it lists TIED to the program's text (the seventh form; the later family's looks); each row that meets fmt, with fmt's text TOLD by the authors' own Lean function (tested against real Go, not proved from fmt's source: count such statements apart). THE CARD IS WHAT COUNTS. Prove the row's statement (the work); the ties are given (YtilipgopjiokfaaGreatDoorTie.lean); close each card by the builder's one call (the guide's Derived/Test/ToyasCard.lean, 'card_holds'). Laid BY PROGRAM, IN A SANDBOX (cutbox-door.mjs). By AI agents, Wed Nov 11 2026. No macro, syntax, notation, axiom, sorry.
-/
import Derived.Test.YtilipgopjiokfaaGreatDoorRows
import GoSem.ClaimSeven
namespace Go.Proofs.YtilipgopjiokfaaGreatDoor
namespace Rows

/-- THE TIED CARD OF 'vigillaw16.ScriptTexts'. -/
def scriptTextsCard : Claim7 := { stood := { row := scriptTextsRow, standIns := [], harness := (true, "0b530867c2d515690f58d80b752c7cd9748f5e2635c93c9b5c45ed3af57d3eca"), looks := true }, kinds := [], alts := [], laidByText := true, laidKinds := [.data, .data, .data, .data, .sentinel, .sentinel, .pinned], laidTests := true, laidLooks := .later }
def ScriptTextsCardSaid : Prop := Claim7.holds Tryz.pinned (.plain (OpenSpec.ofChange scriptTextsSpec)) scriptTextsCard

/-- THE TIED CARD OF 'vigillaw16.ScriptBack'. -/
def scriptBackCard : Claim7 := { stood := { row := scriptBackRow, standIns := [], harness := (true, "0b530867c2d515690f58d80b752c7cd9748f5e2635c93c9b5c45ed3af57d3eca"), looks := true }, kinds := [], alts := [], laidByText := true, laidKinds := [.data, .data, .data, .data, .sentinel, .sentinel, .pinned], laidTests := true, laidLooks := .later }
def ScriptBackCardSaid : Prop := Claim7.holds Tryz.pinned (.plain (OpenSpec.ofChange scriptBackSpec)) scriptBackCard

/-- THE TIED CARD OF 'vigillaw18.LassoTexts'. -/
def lassoTextsCard : Claim7 := { stood := { row := lassoTextsRow, standIns := [], harness := (true, "0b530867c2d515690f58d80b752c7cd9748f5e2635c93c9b5c45ed3af57d3eca"), looks := true }, kinds := [], alts := [], laidByText := true, laidKinds := [.data, .data, .data, .data, .sentinel, .sentinel, .pinned], laidTests := true, laidLooks := .later }
def LassoTextsCardSaid : Prop := Claim7.holds Tryz.pinned (.plain (OpenSpec.ofChange lassoTextsSpec)) lassoTextsCard

/-- THE TIED CARD OF 'vigillaw14.WorldTexts'. -/
def worldTextsCard : Claim7 := { stood := { row := worldTextsRow, standIns := [], harness := (true, "0b530867c2d515690f58d80b752c7cd9748f5e2635c93c9b5c45ed3af57d3eca"), looks := true }, kinds := [], alts := [], laidByText := true, laidKinds := [.data, .data, .data, .data, .sentinel, .sentinel, .pinned], laidTests := true, laidLooks := .later }
def WorldTextsCardSaid : Prop := Claim7.holds Tryz.pinned (.plain (OpenSpec.ofChange worldTextsSpec)) worldTextsCard

/-- THE TIED CARD OF 'vigillaw14.WorldBack'. -/
def worldBackCard : Claim7 := { stood := { row := worldBackRow, standIns := [], harness := (true, "0b530867c2d515690f58d80b752c7cd9748f5e2635c93c9b5c45ed3af57d3eca"), looks := true }, kinds := [], alts := [], laidByText := true, laidKinds := [.data, .data, .data, .data, .sentinel, .sentinel, .pinned], laidTests := true, laidLooks := .later }
def WorldBackCardSaid : Prop := Claim7.holds Tryz.pinned (.plain (OpenSpec.ofChange worldBackSpec)) worldBackCard

/-- THE SECOND FORM's CARD OF 'vigillaw16.ScriptTexts'. -/
def scriptTextsUptoCard : Claim7 := { stood := { row := scriptTextsUptoRow, standIns := [], harness := (true, "0b530867c2d515690f58d80b752c7cd9748f5e2635c93c9b5c45ed3af57d3eca"), looks := true }, kinds := [], alts := [], laidByText := true, laidKinds := [.data, .data, .data, .data, .sentinel, .sentinel, .pinned], laidTests := true, laidLooks := .later }
def ScriptTextsUptoCardSaid : Prop := Claim7.holds Tryz.pinned (.plain (OpenSpec.upto scriptTextsSpec)) scriptTextsUptoCard

/-- THE SECOND FORM's CARD OF 'vigillaw16.ScriptBack'. -/
def scriptBackUptoCard : Claim7 := { stood := { row := scriptBackUptoRow, standIns := [], harness := (true, "0b530867c2d515690f58d80b752c7cd9748f5e2635c93c9b5c45ed3af57d3eca"), looks := true }, kinds := [], alts := [], laidByText := true, laidKinds := [.data, .data, .data, .data, .sentinel, .sentinel, .pinned], laidTests := true, laidLooks := .later }
def ScriptBackUptoCardSaid : Prop := Claim7.holds Tryz.pinned (.plain (OpenSpec.upto scriptBackSpec)) scriptBackUptoCard

/-- THE SECOND FORM's CARD OF 'vigillaw18.LassoTexts'. -/
def lassoTextsUptoCard : Claim7 := { stood := { row := lassoTextsUptoRow, standIns := [], harness := (true, "0b530867c2d515690f58d80b752c7cd9748f5e2635c93c9b5c45ed3af57d3eca"), looks := true }, kinds := [], alts := [], laidByText := true, laidKinds := [.data, .data, .data, .data, .sentinel, .sentinel, .pinned], laidTests := true, laidLooks := .later }
def LassoTextsUptoCardSaid : Prop := Claim7.holds Tryz.pinned (.plain (OpenSpec.upto lassoTextsSpec)) lassoTextsUptoCard

/-- THE SECOND FORM's CARD OF 'vigillaw14.WorldTexts'. -/
def worldTextsUptoCard : Claim7 := { stood := { row := worldTextsUptoRow, standIns := [], harness := (true, "0b530867c2d515690f58d80b752c7cd9748f5e2635c93c9b5c45ed3af57d3eca"), looks := true }, kinds := [], alts := [], laidByText := true, laidKinds := [.data, .data, .data, .data, .sentinel, .sentinel, .pinned], laidTests := true, laidLooks := .later }
def WorldTextsUptoCardSaid : Prop := Claim7.holds Tryz.pinned (.plain (OpenSpec.upto worldTextsSpec)) worldTextsUptoCard

/-- THE SECOND FORM's CARD OF 'vigillaw14.WorldBack'. -/
def worldBackUptoCard : Claim7 := { stood := { row := worldBackUptoRow, standIns := [], harness := (true, "0b530867c2d515690f58d80b752c7cd9748f5e2635c93c9b5c45ed3af57d3eca"), looks := true }, kinds := [], alts := [], laidByText := true, laidKinds := [.data, .data, .data, .data, .sentinel, .sentinel, .pinned], laidTests := true, laidLooks := .later }
def WorldBackUptoCardSaid : Prop := Claim7.holds Tryz.pinned (.plain (OpenSpec.upto worldBackSpec)) worldBackUptoCard
end Rows
end Go.Proofs.YtilipgopjiokfaaGreatDoor
