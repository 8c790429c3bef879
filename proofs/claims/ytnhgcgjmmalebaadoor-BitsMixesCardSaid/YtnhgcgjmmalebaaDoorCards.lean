/-
  DERIVED. GIVEN WITH THE SEED: THE CARDS: each row of YtnhgcgjmmalebaaDoorRows.lean that lists a variable, with what it lists TIED to the program's text (the seventh form; the later family's looks); each row that meets fmt, with fmt's text TOLD by the authors' own Lean function (tested against real Go, not proved from fmt's source: count such statements apart). THE CARD IS WHAT COUNTS. Prove the row's statement (the work); the ties are given (YtnhgcgjmmalebaaDoorTie.lean); close each card by the builder's one call (the guide's Derived/Test/ToyasCard.lean, 'card_holds'). Laid BY PROGRAM, IN A SANDBOX (cutbox-door.mjs). By AI agents, Wed Nov 11 2026. No macro, syntax, notation, axiom, sorry.
-/
import Derived.Test.YtnhgcgjmmalebaaDoorRows
import GoSem.ClaimSeven
namespace Go.Proofs.YtnhgcgjmmalebaaDoor
namespace Rows

/-- THE TIED CARD OF 'copyholdlaw02.BitsRuns'. -/
def bitsRunsCard : Claim7 := { stood := { row := bitsRunsRow, standIns := [], harness := (true, "621858cacec48ed71eef2c1dbfb121ce15decd5ca140246d6d8da723dc735fd0"), looks := false }, kinds := [], alts := [], laidByText := true, laidKinds := [.data], laidTests := true, laidLooks := .later }
def BitsRunsCardSaid : Prop := Claim7.holds Tryd.pinned (.plain (OpenSpec.ofChange bitsRunsSpec)) bitsRunsCard

/-- THE TIED CARD OF 'copyholdlaw17.FreePlays'. -/
def freePlaysCard : Claim7 := { stood := { row := freePlaysRow, standIns := [], harness := (true, "621858cacec48ed71eef2c1dbfb121ce15decd5ca140246d6d8da723dc735fd0"), looks := false }, kinds := [], alts := [], laidByText := true, laidKinds := [.data], laidTests := true, laidLooks := .later }
def FreePlaysCardSaid : Prop := Claim7.holds Tryd.pinned (.plain (OpenSpec.ofChange freePlaysSpec)) freePlaysCard

/-- THE TIED CARD OF 'copyholdlaw17.FreeBoth'. -/
def freeBothCard : Claim7 := { stood := { row := freeBothRow, standIns := [], harness := (true, "621858cacec48ed71eef2c1dbfb121ce15decd5ca140246d6d8da723dc735fd0"), looks := false }, kinds := [], alts := [], laidByText := true, laidKinds := [.data], laidTests := true, laidLooks := .later }
def FreeBothCardSaid : Prop := Claim7.holds Tryd.pinned (.plain (OpenSpec.ofChange freeBothSpec)) freeBothCard

/-- THE TIED CARD OF 'copyholdlaw02.BitsPlays'. -/
def bitsPlaysCard : Claim7 := { stood := { row := bitsPlaysRow, standIns := [], harness := (true, "621858cacec48ed71eef2c1dbfb121ce15decd5ca140246d6d8da723dc735fd0"), looks := false }, kinds := [], alts := [], laidByText := true, laidKinds := [.data], laidTests := true, laidLooks := .later }
def BitsPlaysCardSaid : Prop := Claim7.holds Tryd.pinned (.plain (OpenSpec.ofChange bitsPlaysSpec)) bitsPlaysCard

/-- THE TIED CARD OF 'copyholdlaw02.BitsWalk'. -/
def bitsWalkCard : Claim7 := { stood := { row := bitsWalkRow, standIns := [], harness := (true, "621858cacec48ed71eef2c1dbfb121ce15decd5ca140246d6d8da723dc735fd0"), looks := false }, kinds := [], alts := [], laidByText := true, laidKinds := [.data], laidTests := true, laidLooks := .later }
def BitsWalkCardSaid : Prop := Claim7.holds Tryd.pinned (.plain (OpenSpec.ofChange bitsWalkSpec)) bitsWalkCard

/-- THE TIED CARD OF 'copyholdlaw02.BitsMixes'. -/
def bitsMixesCard : Claim7 := { stood := { row := bitsMixesRow, standIns := [], harness := (true, "621858cacec48ed71eef2c1dbfb121ce15decd5ca140246d6d8da723dc735fd0"), looks := false }, kinds := [], alts := [], laidByText := true, laidKinds := [.data], laidTests := true, laidLooks := .later }
def BitsMixesCardSaid : Prop := Claim7.holds Tryd.pinned (.plain (OpenSpec.ofChange bitsMixesSpec)) bitsMixesCard

/-- THE SECOND FORM's CARD OF 'copyholdlaw02.BitsRuns'. -/
def bitsRunsUptoCard : Claim7 := { stood := { row := bitsRunsUptoRow, standIns := [], harness := (true, "621858cacec48ed71eef2c1dbfb121ce15decd5ca140246d6d8da723dc735fd0"), looks := false }, kinds := [], alts := [], laidByText := true, laidKinds := [.data], laidTests := true, laidLooks := .later }
def BitsRunsUptoCardSaid : Prop := Claim7.holds Tryd.pinned (.plain (OpenSpec.upto bitsRunsSpec)) bitsRunsUptoCard

/-- THE SECOND FORM's CARD OF 'copyholdlaw17.FreePlays'. -/
def freePlaysUptoCard : Claim7 := { stood := { row := freePlaysUptoRow, standIns := [], harness := (true, "621858cacec48ed71eef2c1dbfb121ce15decd5ca140246d6d8da723dc735fd0"), looks := false }, kinds := [], alts := [], laidByText := true, laidKinds := [.data], laidTests := true, laidLooks := .later }
def FreePlaysUptoCardSaid : Prop := Claim7.holds Tryd.pinned (.plain (OpenSpec.upto freePlaysSpec)) freePlaysUptoCard

/-- THE SECOND FORM's CARD OF 'copyholdlaw17.FreeBoth'. -/
def freeBothUptoCard : Claim7 := { stood := { row := freeBothUptoRow, standIns := [], harness := (true, "621858cacec48ed71eef2c1dbfb121ce15decd5ca140246d6d8da723dc735fd0"), looks := false }, kinds := [], alts := [], laidByText := true, laidKinds := [.data], laidTests := true, laidLooks := .later }
def FreeBothUptoCardSaid : Prop := Claim7.holds Tryd.pinned (.plain (OpenSpec.upto freeBothSpec)) freeBothUptoCard

/-- THE SECOND FORM's CARD OF 'copyholdlaw02.BitsPlays'. -/
def bitsPlaysUptoCard : Claim7 := { stood := { row := bitsPlaysUptoRow, standIns := [], harness := (true, "621858cacec48ed71eef2c1dbfb121ce15decd5ca140246d6d8da723dc735fd0"), looks := false }, kinds := [], alts := [], laidByText := true, laidKinds := [.data], laidTests := true, laidLooks := .later }
def BitsPlaysUptoCardSaid : Prop := Claim7.holds Tryd.pinned (.plain (OpenSpec.upto bitsPlaysSpec)) bitsPlaysUptoCard

/-- THE SECOND FORM's CARD OF 'copyholdlaw02.BitsWalk'. -/
def bitsWalkUptoCard : Claim7 := { stood := { row := bitsWalkUptoRow, standIns := [], harness := (true, "621858cacec48ed71eef2c1dbfb121ce15decd5ca140246d6d8da723dc735fd0"), looks := false }, kinds := [], alts := [], laidByText := true, laidKinds := [.data], laidTests := true, laidLooks := .later }
def BitsWalkUptoCardSaid : Prop := Claim7.holds Tryd.pinned (.plain (OpenSpec.upto bitsWalkSpec)) bitsWalkUptoCard

/-- THE SECOND FORM's CARD OF 'copyholdlaw02.BitsMixes'. -/
def bitsMixesUptoCard : Claim7 := { stood := { row := bitsMixesUptoRow, standIns := [], harness := (true, "621858cacec48ed71eef2c1dbfb121ce15decd5ca140246d6d8da723dc735fd0"), looks := false }, kinds := [], alts := [], laidByText := true, laidKinds := [.data], laidTests := true, laidLooks := .later }
def BitsMixesUptoCardSaid : Prop := Claim7.holds Tryd.pinned (.plain (OpenSpec.upto bitsMixesSpec)) bitsMixesUptoCard
end Rows
end Go.Proofs.YtnhgcgjmmalebaaDoor
