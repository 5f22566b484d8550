/-
  DERIVED. GIVEN WITH THE SEED: THE CARDS: each row of YtnlggapedakocaaGreatDoorRows.lean that lists a variable, with what it lists TIED to the program's text (the seventh form; the later family's looks); each row that meets fmt, with fmt's text TOLD by the authors' own Lean function (tested against real Go, not proved from fmt's source: count such statements apart). THE CARD IS WHAT COUNTS. Prove the row's statement (the work); the ties are given (YtnlggapedakocaaGreatDoorTie.lean); close each card by the builder's one call (the guide's Derived/Test/ToyasCard.lean, 'card_holds'). Laid BY PROGRAM, IN A SANDBOX (cutbox-door.mjs). By AI agents, Wed Nov 11 2026. No macro, syntax, notation, axiom, sorry.
-/
import Derived.Test.YtnlggapedakocaaGreatDoorRows
import GoSem.ClaimSeven
namespace Go.Proofs.YtnlggapedakocaaGreatDoor
namespace Rows

/-- THE TIED CARD OF 'quernlaw08.ShowTexts'. -/
def showTextsCard : Claim7 := { stood := { row := showTextsRow, standIns := [], harness := (true, "9977a7cfad805b006d26321caeb960dd3672b995dde30623fb3e278e0adcebcd"), looks := true }, kinds := [], alts := [], laidByText := true, laidKinds := [.data, .data, .data, .data, .pinned], laidTests := true, laidLooks := .later }
def ShowTextsCardSaid : Prop := Claim7.holds Tryz.pinned (.plain (OpenSpec.ofChange showTextsSpec)) showTextsCard

/-- THE TIED CARD OF 'quernlaw08.ShowBack'. -/
def showBackCard : Claim7 := { stood := { row := showBackRow, standIns := [], harness := (true, "9977a7cfad805b006d26321caeb960dd3672b995dde30623fb3e278e0adcebcd"), looks := true }, kinds := [], alts := [], laidByText := true, laidKinds := [.data, .data, .data, .data, .pinned], laidTests := true, laidLooks := .later }
def ShowBackCardSaid : Prop := Claim7.holds Tryz.pinned (.plain (OpenSpec.ofChange showBackSpec)) showBackCard

/-- THE TIED CARD OF 'quernlaw08.ShowLess'. -/
def showLessCard : Claim7 := { stood := { row := showLessRow, standIns := [], harness := (true, "9977a7cfad805b006d26321caeb960dd3672b995dde30623fb3e278e0adcebcd"), looks := true }, kinds := [], alts := [], laidByText := true, laidKinds := [.data, .data, .data, .data, .pinned], laidTests := true, laidLooks := .later }
def ShowLessCardSaid : Prop := Claim7.holds Tryz.pinned (.plain (OpenSpec.ofChange showLessSpec)) showLessCard

/-- THE TIED CARD OF 'quernlaw08.ShowTypes'. -/
def showTypesCard : Claim7 := { stood := { row := showTypesRow, standIns := [], harness := (true, "9977a7cfad805b006d26321caeb960dd3672b995dde30623fb3e278e0adcebcd"), looks := true }, kinds := [], alts := [], laidByText := true, laidKinds := [.data, .data, .data, .data, .pinned], laidTests := true, laidLooks := .later }
def ShowTypesCardSaid : Prop := Claim7.holds Tryz.pinned (.plain (OpenSpec.ofChange showTypesSpec)) showTypesCard

/-- THE TIED CARD OF 'quernlaw08.ShowKeeps'. -/
def showKeepsCard : Claim7 := { stood := { row := showKeepsRow, standIns := [], harness := (true, "9977a7cfad805b006d26321caeb960dd3672b995dde30623fb3e278e0adcebcd"), looks := true }, kinds := [], alts := [], laidByText := true, laidKinds := [.data, .data, .data, .data, .pinned], laidTests := true, laidLooks := .later }
def ShowKeepsCardSaid : Prop := Claim7.holds Tryz.pinned (.plain (OpenSpec.ofChange showKeepsSpec)) showKeepsCard

/-- THE TIED CARD OF 'quernlaw08.ShowLines'. -/
def showLinesCard : Claim7 := { stood := { row := showLinesRow, standIns := [], harness := (true, "9977a7cfad805b006d26321caeb960dd3672b995dde30623fb3e278e0adcebcd"), looks := true }, kinds := [], alts := [], laidByText := true, laidKinds := [.data, .data, .data, .data, .pinned], laidTests := true, laidLooks := .later }
def ShowLinesCardSaid : Prop := Claim7.holds Tryz.pinned (.plain (OpenSpec.ofChange showLinesSpec)) showLinesCard

/-- THE SECOND FORM's CARD OF 'quernlaw08.ShowTexts'. -/
def showTextsUptoCard : Claim7 := { stood := { row := showTextsUptoRow, standIns := [], harness := (true, "9977a7cfad805b006d26321caeb960dd3672b995dde30623fb3e278e0adcebcd"), looks := true }, kinds := [], alts := [], laidByText := true, laidKinds := [.data, .data, .data, .data, .pinned], laidTests := true, laidLooks := .later }
def ShowTextsUptoCardSaid : Prop := Claim7.holds Tryz.pinned (.plain (OpenSpec.upto showTextsSpec)) showTextsUptoCard

/-- THE SECOND FORM's CARD OF 'quernlaw08.ShowBack'. -/
def showBackUptoCard : Claim7 := { stood := { row := showBackUptoRow, standIns := [], harness := (true, "9977a7cfad805b006d26321caeb960dd3672b995dde30623fb3e278e0adcebcd"), looks := true }, kinds := [], alts := [], laidByText := true, laidKinds := [.data, .data, .data, .data, .pinned], laidTests := true, laidLooks := .later }
def ShowBackUptoCardSaid : Prop := Claim7.holds Tryz.pinned (.plain (OpenSpec.upto showBackSpec)) showBackUptoCard

/-- THE SECOND FORM's CARD OF 'quernlaw08.ShowLess'. -/
def showLessUptoCard : Claim7 := { stood := { row := showLessUptoRow, standIns := [], harness := (true, "9977a7cfad805b006d26321caeb960dd3672b995dde30623fb3e278e0adcebcd"), looks := true }, kinds := [], alts := [], laidByText := true, laidKinds := [.data, .data, .data, .data, .pinned], laidTests := true, laidLooks := .later }
def ShowLessUptoCardSaid : Prop := Claim7.holds Tryz.pinned (.plain (OpenSpec.upto showLessSpec)) showLessUptoCard

/-- THE SECOND FORM's CARD OF 'quernlaw08.ShowTypes'. -/
def showTypesUptoCard : Claim7 := { stood := { row := showTypesUptoRow, standIns := [], harness := (true, "9977a7cfad805b006d26321caeb960dd3672b995dde30623fb3e278e0adcebcd"), looks := true }, kinds := [], alts := [], laidByText := true, laidKinds := [.data, .data, .data, .data, .pinned], laidTests := true, laidLooks := .later }
def ShowTypesUptoCardSaid : Prop := Claim7.holds Tryz.pinned (.plain (OpenSpec.upto showTypesSpec)) showTypesUptoCard

/-- THE SECOND FORM's CARD OF 'quernlaw08.ShowKeeps'. -/
def showKeepsUptoCard : Claim7 := { stood := { row := showKeepsUptoRow, standIns := [], harness := (true, "9977a7cfad805b006d26321caeb960dd3672b995dde30623fb3e278e0adcebcd"), looks := true }, kinds := [], alts := [], laidByText := true, laidKinds := [.data, .data, .data, .data, .pinned], laidTests := true, laidLooks := .later }
def ShowKeepsUptoCardSaid : Prop := Claim7.holds Tryz.pinned (.plain (OpenSpec.upto showKeepsSpec)) showKeepsUptoCard

/-- THE SECOND FORM's CARD OF 'quernlaw08.ShowLines'. -/
def showLinesUptoCard : Claim7 := { stood := { row := showLinesUptoRow, standIns := [], harness := (true, "9977a7cfad805b006d26321caeb960dd3672b995dde30623fb3e278e0adcebcd"), looks := true }, kinds := [], alts := [], laidByText := true, laidKinds := [.data, .data, .data, .data, .pinned], laidTests := true, laidLooks := .later }
def ShowLinesUptoCardSaid : Prop := Claim7.holds Tryz.pinned (.plain (OpenSpec.upto showLinesSpec)) showLinesUptoCard
end Rows
end Go.Proofs.YtnlggapedakocaaGreatDoor
