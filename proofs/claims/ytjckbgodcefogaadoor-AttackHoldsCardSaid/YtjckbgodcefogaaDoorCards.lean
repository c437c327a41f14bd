/-
  DERIVED. GIVEN WITH THE SEED: THE CARDS: each row of YtjckbgodcefogaaDoorRows.lean that lists a variable, with what it lists TIED to the program's text (the seventh form; the later family's looks); each row that meets fmt, with fmt's text TOLD by the authors' own Lean function (tested against real Go, not proved from fmt's source: count such statements apart). THE CARD IS WHAT COUNTS. Prove the row's statement (the work); the ties are given (YtjckbgodcefogaaDoorTie.lean); close each card by the builder's one call (the guide's Derived/Test/ToyasCard.lean, 'card_holds'). Laid BY PROGRAM, IN A SANDBOX (cutbox-door.mjs). By AI agents, Wed Nov 11 2026. No macro, syntax, notation, axiom, sorry.
-/
import Derived.Test.YtjckbgodcefogaaDoorRows
import GoSem.ClaimSeven
namespace Go.Proofs.YtjckbgodcefogaaDoor
namespace Rows

/-- THE TIED CARD OF 'caissalaw04.RayRays'. -/
def rayRaysCard : Claim7 := { stood := { row := rayRaysRow, standIns := [], harness := (true, "a25307c6ab09fab2509b76d141d5cb6f2f8c4aa17a3c04cd575a13ebecb1ebf5"), looks := false }, kinds := [], alts := [], laidByText := true, laidKinds := [.widerDeep, .widerDeep, .widerDeep], laidTests := true, laidLooks := .later }
def RayRaysCardSaid : Prop := Claim7.holds Tryd.pinned (.plain (OpenSpec.ofChange rayRaysSpec)) rayRaysCard

/-- THE TIED CARD OF 'caissalaw04.RayLines'. -/
def rayLinesCard : Claim7 := { stood := { row := rayLinesRow, standIns := [], harness := (true, "a25307c6ab09fab2509b76d141d5cb6f2f8c4aa17a3c04cd575a13ebecb1ebf5"), looks := false }, kinds := [], alts := [], laidByText := true, laidKinds := [.widerDeep, .widerDeep, .widerDeep], laidTests := true, laidLooks := .later }
def RayLinesCardSaid : Prop := Claim7.holds Tryd.pinned (.plain (OpenSpec.ofChange rayLinesSpec)) rayLinesCard

/-- THE TIED CARD OF 'caissalaw04.RayReaches'. -/
def rayReachesCard : Claim7 := { stood := { row := rayReachesRow, standIns := [], harness := (true, "a25307c6ab09fab2509b76d141d5cb6f2f8c4aa17a3c04cd575a13ebecb1ebf5"), looks := false }, kinds := [], alts := [], laidByText := true, laidKinds := [.widerDeep, .widerDeep, .widerDeep], laidTests := true, laidLooks := .later }
def RayReachesCardSaid : Prop := Claim7.holds Tryd.pinned (.plain (OpenSpec.ofChange rayReachesSpec)) rayReachesCard

/-- THE TIED CARD OF 'caissalaw04.RayPawns'. -/
def rayPawnsCard : Claim7 := { stood := { row := rayPawnsRow, standIns := [], harness := (true, "a25307c6ab09fab2509b76d141d5cb6f2f8c4aa17a3c04cd575a13ebecb1ebf5"), looks := false }, kinds := [], alts := [], laidByText := true, laidKinds := [.widerDeep, .widerDeep, .widerDeep], laidTests := true, laidLooks := .later }
def RayPawnsCardSaid : Prop := Claim7.holds Tryd.pinned (.plain (OpenSpec.ofChange rayPawnsSpec)) rayPawnsCard

/-- THE TIED CARD OF 'caissalaw04.RayHolds'. -/
def rayHoldsCard : Claim7 := { stood := { row := rayHoldsRow, standIns := [], harness := (true, "a25307c6ab09fab2509b76d141d5cb6f2f8c4aa17a3c04cd575a13ebecb1ebf5"), looks := false }, kinds := [], alts := [], laidByText := true, laidKinds := [.widerDeep, .widerDeep, .widerDeep], laidTests := true, laidLooks := .later }
def RayHoldsCardSaid : Prop := Claim7.holds Tryd.pinned (.plain (OpenSpec.ofChange rayHoldsSpec)) rayHoldsCard

/-- THE TIED CARD OF 'caissalaw05.AttackAttackers'. -/
def attackAttackersCard : Claim7 := { stood := { row := attackAttackersRow, standIns := [], harness := (true, "a25307c6ab09fab2509b76d141d5cb6f2f8c4aa17a3c04cd575a13ebecb1ebf5"), looks := false }, kinds := [], alts := [], laidByText := true, laidKinds := [.widerDeep, .widerDeep, .widerDeep], laidTests := true, laidLooks := .later }
def AttackAttackersCardSaid : Prop := Claim7.holds Tryd.pinned (.plain (OpenSpec.ofChange attackAttackersSpec)) attackAttackersCard

/-- THE TIED CARD OF 'caissalaw05.AttackAll'. -/
def attackAllCard : Claim7 := { stood := { row := attackAllRow, standIns := [], harness := (true, "a25307c6ab09fab2509b76d141d5cb6f2f8c4aa17a3c04cd575a13ebecb1ebf5"), looks := false }, kinds := [], alts := [], laidByText := true, laidKinds := [.widerDeep, .widerDeep, .widerDeep], laidTests := true, laidLooks := .later }
def AttackAllCardSaid : Prop := Claim7.holds Tryd.pinned (.plain (OpenSpec.ofChange attackAllSpec)) attackAllCard

/-- THE TIED CARD OF 'caissalaw05.AttackChecks'. -/
def attackChecksCard : Claim7 := { stood := { row := attackChecksRow, standIns := [], harness := (true, "a25307c6ab09fab2509b76d141d5cb6f2f8c4aa17a3c04cd575a13ebecb1ebf5"), looks := false }, kinds := [], alts := [], laidByText := true, laidKinds := [.widerDeep, .widerDeep, .widerDeep], laidTests := true, laidLooks := .later }
def AttackChecksCardSaid : Prop := Claim7.holds Tryd.pinned (.plain (OpenSpec.ofChange attackChecksSpec)) attackChecksCard

/-- THE TIED CARD OF 'caissalaw05.AttackPins'. -/
def attackPinsCard : Claim7 := { stood := { row := attackPinsRow, standIns := [], harness := (true, "a25307c6ab09fab2509b76d141d5cb6f2f8c4aa17a3c04cd575a13ebecb1ebf5"), looks := false }, kinds := [], alts := [], laidByText := true, laidKinds := [.widerDeep, .widerDeep, .widerDeep], laidTests := true, laidLooks := .later }
def AttackPinsCardSaid : Prop := Claim7.holds Tryd.pinned (.plain (OpenSpec.ofChange attackPinsSpec)) attackPinsCard

/-- THE TIED CARD OF 'caissalaw05.AttackHolds'. -/
def attackHoldsCard : Claim7 := { stood := { row := attackHoldsRow, standIns := [], harness := (true, "a25307c6ab09fab2509b76d141d5cb6f2f8c4aa17a3c04cd575a13ebecb1ebf5"), looks := false }, kinds := [], alts := [], laidByText := true, laidKinds := [.widerDeep, .widerDeep, .widerDeep], laidTests := true, laidLooks := .later }
def AttackHoldsCardSaid : Prop := Claim7.holds Tryd.pinned (.plain (OpenSpec.ofChange attackHoldsSpec)) attackHoldsCard

/-- THE SECOND FORM's CARD OF 'caissalaw04.RayRays'. -/
def rayRaysUptoCard : Claim7 := { stood := { row := rayRaysUptoRow, standIns := [], harness := (true, "a25307c6ab09fab2509b76d141d5cb6f2f8c4aa17a3c04cd575a13ebecb1ebf5"), looks := false }, kinds := [], alts := [], laidByText := true, laidKinds := [.widerDeep, .widerDeep, .widerDeep], laidTests := true, laidLooks := .later }
def RayRaysUptoCardSaid : Prop := Claim7.holds Tryd.pinned (.plain (OpenSpec.upto rayRaysSpec)) rayRaysUptoCard

/-- THE SECOND FORM's CARD OF 'caissalaw04.RayLines'. -/
def rayLinesUptoCard : Claim7 := { stood := { row := rayLinesUptoRow, standIns := [], harness := (true, "a25307c6ab09fab2509b76d141d5cb6f2f8c4aa17a3c04cd575a13ebecb1ebf5"), looks := false }, kinds := [], alts := [], laidByText := true, laidKinds := [.widerDeep, .widerDeep, .widerDeep], laidTests := true, laidLooks := .later }
def RayLinesUptoCardSaid : Prop := Claim7.holds Tryd.pinned (.plain (OpenSpec.upto rayLinesSpec)) rayLinesUptoCard

/-- THE SECOND FORM's CARD OF 'caissalaw04.RayReaches'. -/
def rayReachesUptoCard : Claim7 := { stood := { row := rayReachesUptoRow, standIns := [], harness := (true, "a25307c6ab09fab2509b76d141d5cb6f2f8c4aa17a3c04cd575a13ebecb1ebf5"), looks := false }, kinds := [], alts := [], laidByText := true, laidKinds := [.widerDeep, .widerDeep, .widerDeep], laidTests := true, laidLooks := .later }
def RayReachesUptoCardSaid : Prop := Claim7.holds Tryd.pinned (.plain (OpenSpec.upto rayReachesSpec)) rayReachesUptoCard

/-- THE SECOND FORM's CARD OF 'caissalaw04.RayPawns'. -/
def rayPawnsUptoCard : Claim7 := { stood := { row := rayPawnsUptoRow, standIns := [], harness := (true, "a25307c6ab09fab2509b76d141d5cb6f2f8c4aa17a3c04cd575a13ebecb1ebf5"), looks := false }, kinds := [], alts := [], laidByText := true, laidKinds := [.widerDeep, .widerDeep, .widerDeep], laidTests := true, laidLooks := .later }
def RayPawnsUptoCardSaid : Prop := Claim7.holds Tryd.pinned (.plain (OpenSpec.upto rayPawnsSpec)) rayPawnsUptoCard

/-- THE SECOND FORM's CARD OF 'caissalaw04.RayHolds'. -/
def rayHoldsUptoCard : Claim7 := { stood := { row := rayHoldsUptoRow, standIns := [], harness := (true, "a25307c6ab09fab2509b76d141d5cb6f2f8c4aa17a3c04cd575a13ebecb1ebf5"), looks := false }, kinds := [], alts := [], laidByText := true, laidKinds := [.widerDeep, .widerDeep, .widerDeep], laidTests := true, laidLooks := .later }
def RayHoldsUptoCardSaid : Prop := Claim7.holds Tryd.pinned (.plain (OpenSpec.upto rayHoldsSpec)) rayHoldsUptoCard

/-- THE SECOND FORM's CARD OF 'caissalaw05.AttackAttackers'. -/
def attackAttackersUptoCard : Claim7 := { stood := { row := attackAttackersUptoRow, standIns := [], harness := (true, "a25307c6ab09fab2509b76d141d5cb6f2f8c4aa17a3c04cd575a13ebecb1ebf5"), looks := false }, kinds := [], alts := [], laidByText := true, laidKinds := [.widerDeep, .widerDeep, .widerDeep], laidTests := true, laidLooks := .later }
def AttackAttackersUptoCardSaid : Prop := Claim7.holds Tryd.pinned (.plain (OpenSpec.upto attackAttackersSpec)) attackAttackersUptoCard

/-- THE SECOND FORM's CARD OF 'caissalaw05.AttackAll'. -/
def attackAllUptoCard : Claim7 := { stood := { row := attackAllUptoRow, standIns := [], harness := (true, "a25307c6ab09fab2509b76d141d5cb6f2f8c4aa17a3c04cd575a13ebecb1ebf5"), looks := false }, kinds := [], alts := [], laidByText := true, laidKinds := [.widerDeep, .widerDeep, .widerDeep], laidTests := true, laidLooks := .later }
def AttackAllUptoCardSaid : Prop := Claim7.holds Tryd.pinned (.plain (OpenSpec.upto attackAllSpec)) attackAllUptoCard

/-- THE SECOND FORM's CARD OF 'caissalaw05.AttackChecks'. -/
def attackChecksUptoCard : Claim7 := { stood := { row := attackChecksUptoRow, standIns := [], harness := (true, "a25307c6ab09fab2509b76d141d5cb6f2f8c4aa17a3c04cd575a13ebecb1ebf5"), looks := false }, kinds := [], alts := [], laidByText := true, laidKinds := [.widerDeep, .widerDeep, .widerDeep], laidTests := true, laidLooks := .later }
def AttackChecksUptoCardSaid : Prop := Claim7.holds Tryd.pinned (.plain (OpenSpec.upto attackChecksSpec)) attackChecksUptoCard

/-- THE SECOND FORM's CARD OF 'caissalaw05.AttackPins'. -/
def attackPinsUptoCard : Claim7 := { stood := { row := attackPinsUptoRow, standIns := [], harness := (true, "a25307c6ab09fab2509b76d141d5cb6f2f8c4aa17a3c04cd575a13ebecb1ebf5"), looks := false }, kinds := [], alts := [], laidByText := true, laidKinds := [.widerDeep, .widerDeep, .widerDeep], laidTests := true, laidLooks := .later }
def AttackPinsUptoCardSaid : Prop := Claim7.holds Tryd.pinned (.plain (OpenSpec.upto attackPinsSpec)) attackPinsUptoCard

/-- THE SECOND FORM's CARD OF 'caissalaw05.AttackHolds'. -/
def attackHoldsUptoCard : Claim7 := { stood := { row := attackHoldsUptoRow, standIns := [], harness := (true, "a25307c6ab09fab2509b76d141d5cb6f2f8c4aa17a3c04cd575a13ebecb1ebf5"), looks := false }, kinds := [], alts := [], laidByText := true, laidKinds := [.widerDeep, .widerDeep, .widerDeep], laidTests := true, laidLooks := .later }
def AttackHoldsUptoCardSaid : Prop := Claim7.holds Tryd.pinned (.plain (OpenSpec.upto attackHoldsSpec)) attackHoldsUptoCard
end Rows
end Go.Proofs.YtjckbgodcefogaaDoor
