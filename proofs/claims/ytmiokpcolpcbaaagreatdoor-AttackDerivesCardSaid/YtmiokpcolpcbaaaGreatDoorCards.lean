/-
  DERIVED. GIVEN WITH THE SEED: THE CARDS: each row of YtmiokpcolpcbaaaGreatDoorRows.lean that lists a variable, with what it lists TIED to the program's text (the seventh form; the later family's looks); each row that meets fmt, with fmt's text TOLD by the authors' own Lean function (tested against real Go, not proved from fmt's source: count such statements apart). THE CARD IS WHAT COUNTS. Prove the row's statement (the work); the ties are given (YtmiokpcolpcbaaaGreatDoorTie.lean); close each card by the builder's one call (the guide's Derived/Test/ToyasCard.lean, 'card_holds'). Laid BY PROGRAM, IN A SANDBOX (cutbox-door.mjs). By AI agents, Wed Nov 11 2026. No macro, syntax, notation, axiom, sorry.
-/
import Derived.Test.YtmiokpcolpcbaaaGreatDoorRows
import GoSem.ClaimSeven
namespace Go.Proofs.YtmiokpcolpcbaaaGreatDoor
namespace Rows

/-- THE TIED CARD OF 'scriniumlaw26.AttackDerives'. -/
def attackDerivesCard : Claim7 := { stood := { row := attackDerivesRow, standIns := [], harness := (true, "b3efca3e4eee2740ed46168e47cedbdf32656a3a9a3cf420a440d021b8c1bdfb"), looks := true }, kinds := [], alts := [], laidByText := true, laidKinds := [.data, .data, .data, .sentinel, .sentinel], laidTests := true, laidLooks := .later }
def AttackDerivesCardSaid : Prop := Claim7.holds Tryz.pinned (.plain (OpenSpec.ofChange attackDerivesSpec)) attackDerivesCard

/-- THE TIED CARD OF 'scriniumlaw26.AttackSafe'. -/
def attackSafeCard : Claim7 := { stood := { row := attackSafeRow, standIns := [], harness := (true, "b3efca3e4eee2740ed46168e47cedbdf32656a3a9a3cf420a440d021b8c1bdfb"), looks := true }, kinds := [], alts := [], laidByText := true, laidKinds := [.data, .data, .data, .sentinel, .sentinel], laidTests := true, laidLooks := .later }
def AttackSafeCardSaid : Prop := Claim7.holds Tryz.pinned (.plain (OpenSpec.ofChange attackSafeSpec)) attackSafeCard

/-- THE TIED CARD OF 'scriniumlaw26.AttackOpens'. -/
def attackOpensCard : Claim7 := { stood := { row := attackOpensRow, standIns := [], harness := (true, "b3efca3e4eee2740ed46168e47cedbdf32656a3a9a3cf420a440d021b8c1bdfb"), looks := true }, kinds := [], alts := [], laidByText := true, laidKinds := [.data, .data, .data, .sentinel, .sentinel], laidTests := true, laidLooks := .later }
def AttackOpensCardSaid : Prop := Claim7.holds Tryz.pinned (.plain (OpenSpec.ofChange attackOpensSpec)) attackOpensCard

/-- THE TIED CARD OF 'scriniumlaw26.AttackSound'. -/
def attackSoundCard : Claim7 := { stood := { row := attackSoundRow, standIns := [], harness := (true, "b3efca3e4eee2740ed46168e47cedbdf32656a3a9a3cf420a440d021b8c1bdfb"), looks := true }, kinds := [], alts := [], laidByText := true, laidKinds := [.data, .data, .data, .sentinel, .sentinel], laidTests := true, laidLooks := .later }
def AttackSoundCardSaid : Prop := Claim7.holds Tryz.pinned (.plain (OpenSpec.ofChange attackSoundSpec)) attackSoundCard

/-- THE SECOND FORM's CARD OF 'scriniumlaw26.AttackDerives'. -/
def attackDerivesUptoCard : Claim7 := { stood := { row := attackDerivesUptoRow, standIns := [], harness := (true, "b3efca3e4eee2740ed46168e47cedbdf32656a3a9a3cf420a440d021b8c1bdfb"), looks := true }, kinds := [], alts := [], laidByText := true, laidKinds := [.data, .data, .data, .sentinel, .sentinel], laidTests := true, laidLooks := .later }
def AttackDerivesUptoCardSaid : Prop := Claim7.holds Tryz.pinned (.plain (OpenSpec.upto attackDerivesSpec)) attackDerivesUptoCard

/-- THE SECOND FORM's CARD OF 'scriniumlaw26.AttackSafe'. -/
def attackSafeUptoCard : Claim7 := { stood := { row := attackSafeUptoRow, standIns := [], harness := (true, "b3efca3e4eee2740ed46168e47cedbdf32656a3a9a3cf420a440d021b8c1bdfb"), looks := true }, kinds := [], alts := [], laidByText := true, laidKinds := [.data, .data, .data, .sentinel, .sentinel], laidTests := true, laidLooks := .later }
def AttackSafeUptoCardSaid : Prop := Claim7.holds Tryz.pinned (.plain (OpenSpec.upto attackSafeSpec)) attackSafeUptoCard

/-- THE SECOND FORM's CARD OF 'scriniumlaw26.AttackOpens'. -/
def attackOpensUptoCard : Claim7 := { stood := { row := attackOpensUptoRow, standIns := [], harness := (true, "b3efca3e4eee2740ed46168e47cedbdf32656a3a9a3cf420a440d021b8c1bdfb"), looks := true }, kinds := [], alts := [], laidByText := true, laidKinds := [.data, .data, .data, .sentinel, .sentinel], laidTests := true, laidLooks := .later }
def AttackOpensUptoCardSaid : Prop := Claim7.holds Tryz.pinned (.plain (OpenSpec.upto attackOpensSpec)) attackOpensUptoCard

/-- THE SECOND FORM's CARD OF 'scriniumlaw26.AttackSound'. -/
def attackSoundUptoCard : Claim7 := { stood := { row := attackSoundUptoRow, standIns := [], harness := (true, "b3efca3e4eee2740ed46168e47cedbdf32656a3a9a3cf420a440d021b8c1bdfb"), looks := true }, kinds := [], alts := [], laidByText := true, laidKinds := [.data, .data, .data, .sentinel, .sentinel], laidTests := true, laidLooks := .later }
def AttackSoundUptoCardSaid : Prop := Claim7.holds Tryz.pinned (.plain (OpenSpec.upto attackSoundSpec)) attackSoundUptoCard
end Rows
end Go.Proofs.YtmiokpcolpcbaaaGreatDoor
