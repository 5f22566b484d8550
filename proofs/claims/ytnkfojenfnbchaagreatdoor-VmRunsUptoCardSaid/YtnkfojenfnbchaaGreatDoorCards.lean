/-
  DERIVED. GIVEN WITH THE SEED: THE CARDS: each row of YtnkfojenfnbchaaGreatDoorRows.lean that lists a variable, with what it lists TIED to the program's text (the seventh form; the later family's looks); each row that meets fmt, with fmt's text TOLD by the authors' own Lean function (tested against real Go, not proved from fmt's source: count such statements apart). THE CARD IS WHAT COUNTS. Prove the row's statement (the work); the ties are given (YtnkfojenfnbchaaGreatDoorTie.lean); close each card by the builder's one call (the guide's Derived/Test/ToyasCard.lean, 'card_holds'). Laid BY PROGRAM, IN A SANDBOX (cutbox-door.mjs). By AI agents, Wed Nov 11 2026. No macro, syntax, notation, axiom, sorry.
-/
import Derived.Test.YtnkfojenfnbchaaGreatDoorRows
import GoSem.ClaimSeven
namespace Go.Proofs.YtnkfojenfnbchaaGreatDoor
namespace Rows

/-- THE TIED CARD OF 'quernlaw15.VmRuns'. -/
def vmRunsCard : Claim7 := { stood := { row := vmRunsRow, standIns := [], harness := (true, "76abdd3765dfbf1606d02f64e451075169c4e4e748ee1c49d9b5c977d338634a"), looks := true }, kinds := [], alts := [], laidByText := true, laidKinds := [.data, .data, .data], laidTests := true, laidLooks := .later }
def VmRunsCardSaid : Prop := Claim7.holds Tryz.pinned (.plain (OpenSpec.ofChange vmRunsSpec)) vmRunsCard

/-- THE TIED CARD OF 'quernlaw15.VmSound'. -/
def vmSoundCard : Claim7 := { stood := { row := vmSoundRow, standIns := [], harness := (true, "76abdd3765dfbf1606d02f64e451075169c4e4e748ee1c49d9b5c977d338634a"), looks := true }, kinds := [], alts := [], laidByText := true, laidKinds := [.data, .data, .data], laidTests := true, laidLooks := .later }
def VmSoundCardSaid : Prop := Claim7.holds Tryz.pinned (.plain (OpenSpec.ofChange vmSoundSpec)) vmSoundCard

/-- THE TIED CARD OF 'quernlaw15.VmFuel'. -/
def vmFuelCard : Claim7 := { stood := { row := vmFuelRow, standIns := [], harness := (true, "76abdd3765dfbf1606d02f64e451075169c4e4e748ee1c49d9b5c977d338634a"), looks := true }, kinds := [], alts := [], laidByText := true, laidKinds := [.data, .data, .data], laidTests := true, laidLooks := .later }
def VmFuelCardSaid : Prop := Claim7.holds Tryz.pinned (.plain (OpenSpec.ofChange vmFuelSpec)) vmFuelCard

/-- THE TIED CARD OF 'quernlaw15.VmKeeps'. -/
def vmKeepsCard : Claim7 := { stood := { row := vmKeepsRow, standIns := [], harness := (true, "76abdd3765dfbf1606d02f64e451075169c4e4e748ee1c49d9b5c977d338634a"), looks := true }, kinds := [], alts := [], laidByText := true, laidKinds := [.data, .data, .data], laidTests := true, laidLooks := .later }
def VmKeepsCardSaid : Prop := Claim7.holds Tryz.pinned (.plain (OpenSpec.ofChange vmKeepsSpec)) vmKeepsCard

/-- THE SECOND FORM's CARD OF 'quernlaw15.VmRuns'. -/
def vmRunsUptoCard : Claim7 := { stood := { row := vmRunsUptoRow, standIns := [], harness := (true, "76abdd3765dfbf1606d02f64e451075169c4e4e748ee1c49d9b5c977d338634a"), looks := true }, kinds := [], alts := [], laidByText := true, laidKinds := [.data, .data, .data], laidTests := true, laidLooks := .later }
def VmRunsUptoCardSaid : Prop := Claim7.holds Tryz.pinned (.plain (OpenSpec.upto vmRunsSpec)) vmRunsUptoCard

/-- THE SECOND FORM's CARD OF 'quernlaw15.VmSound'. -/
def vmSoundUptoCard : Claim7 := { stood := { row := vmSoundUptoRow, standIns := [], harness := (true, "76abdd3765dfbf1606d02f64e451075169c4e4e748ee1c49d9b5c977d338634a"), looks := true }, kinds := [], alts := [], laidByText := true, laidKinds := [.data, .data, .data], laidTests := true, laidLooks := .later }
def VmSoundUptoCardSaid : Prop := Claim7.holds Tryz.pinned (.plain (OpenSpec.upto vmSoundSpec)) vmSoundUptoCard

/-- THE SECOND FORM's CARD OF 'quernlaw15.VmFuel'. -/
def vmFuelUptoCard : Claim7 := { stood := { row := vmFuelUptoRow, standIns := [], harness := (true, "76abdd3765dfbf1606d02f64e451075169c4e4e748ee1c49d9b5c977d338634a"), looks := true }, kinds := [], alts := [], laidByText := true, laidKinds := [.data, .data, .data], laidTests := true, laidLooks := .later }
def VmFuelUptoCardSaid : Prop := Claim7.holds Tryz.pinned (.plain (OpenSpec.upto vmFuelSpec)) vmFuelUptoCard

/-- THE SECOND FORM's CARD OF 'quernlaw15.VmKeeps'. -/
def vmKeepsUptoCard : Claim7 := { stood := { row := vmKeepsUptoRow, standIns := [], harness := (true, "76abdd3765dfbf1606d02f64e451075169c4e4e748ee1c49d9b5c977d338634a"), looks := true }, kinds := [], alts := [], laidByText := true, laidKinds := [.data, .data, .data], laidTests := true, laidLooks := .later }
def VmKeepsUptoCardSaid : Prop := Claim7.holds Tryz.pinned (.plain (OpenSpec.upto vmKeepsSpec)) vmKeepsUptoCard
end Rows
end Go.Proofs.YtnkfojenfnbchaaGreatDoor
