/-
  DERIVED. GIVEN WITH THE SEED: THE CARDS: each row of YtponkdimnafppaaDoorRows.lean that lists a variable, with what it lists TIED to the program's text (the seventh form; the later family's looks); each row that meets fmt, with fmt's text TOLD by the authors' own Lean function (tested against real Go, not proved from fmt's source: count such statements apart). THE CARD IS WHAT COUNTS. Prove the row's statement (the work); the ties are given (YtponkdimnafppaaDoorTie.lean); close each card by the builder's one call (the guide's Derived/Test/ToyasCard.lean, 'card_holds'). Laid BY PROGRAM, IN A SANDBOX (cutbox-door.mjs). By AI agents, Wed Nov 11 2026. No macro, syntax, notation, axiom, sorry.
-/
import Derived.Test.YtponkdimnafppaaDoorRows
import GoSem.ClaimSeven
namespace Go.Proofs.YtponkdimnafppaaDoor
namespace Rows

/-- THE TIED CARD OF 'hansomlaw11.AddrOff'. -/
def addrOffCard : Claim7 := { stood := { row := addrOffRow, standIns := [], harness := (true, "1a147ad85db366df8d2edd6b870d26fecd8e5f79befd6b2c6e6a1f72bbbb198b"), looks := false }, kinds := [], alts := [], laidByText := true, laidKinds := [.data], laidTests := true, laidLooks := .later }
def AddrOffCardSaid : Prop := Claim7.holds Tryd.pinned (.plain (OpenSpec.ofChange addrOffSpec)) addrOffCard

/-- THE TIED CARD OF 'hansomlaw11.AddrSegs'. -/
def addrSegsCard : Claim7 := { stood := { row := addrSegsRow, standIns := [], harness := (true, "1a147ad85db366df8d2edd6b870d26fecd8e5f79befd6b2c6e6a1f72bbbb198b"), looks := false }, kinds := [], alts := [], laidByText := true, laidKinds := [.data], laidTests := true, laidLooks := .later }
def AddrSegsCardSaid : Prop := Claim7.holds Tryd.pinned (.plain (OpenSpec.ofChange addrSegsSpec)) addrSegsCard

/-- THE TIED CARD OF 'hansomlaw13.CoreOperands'. -/
def coreOperandsCard : Claim7 := { stood := { row := coreOperandsRow, standIns := [], harness := (true, "1a147ad85db366df8d2edd6b870d26fecd8e5f79befd6b2c6e6a1f72bbbb198b"), looks := false }, kinds := [], alts := [], laidByText := true, laidKinds := [.data], laidTests := true, laidLooks := .later }
def CoreOperandsCardSaid : Prop := Claim7.holds Tryd.pinned (.plain (OpenSpec.ofChange coreOperandsSpec)) coreOperandsCard

/-- THE TIED CARD OF 'hansomlaw15.StropOnce'. -/
def stropOnceCard : Claim7 := { stood := { row := stropOnceRow, standIns := [], harness := (true, "1a147ad85db366df8d2edd6b870d26fecd8e5f79befd6b2c6e6a1f72bbbb198b"), looks := false }, kinds := [], alts := [], laidByText := true, laidKinds := [.data], laidTests := true, laidLooks := .later }
def StropOnceCardSaid : Prop := Claim7.holds Tryd.pinned (.plain (OpenSpec.ofChange stropOnceSpec)) stropOnceCard

/-- THE TIED CARD OF 'hansomlaw15.StropWords'. -/
def stropWordsCard : Claim7 := { stood := { row := stropWordsRow, standIns := [], harness := (true, "1a147ad85db366df8d2edd6b870d26fecd8e5f79befd6b2c6e6a1f72bbbb198b"), looks := false }, kinds := [], alts := [], laidByText := true, laidKinds := [.data], laidTests := true, laidLooks := .later }
def StropWordsCardSaid : Prop := Claim7.holds Tryd.pinned (.plain (OpenSpec.ofChange stropWordsSpec)) stropWordsCard

/-- THE TIED CARD OF 'hansomlaw15.StropRepeats'. -/
def stropRepeatsCard : Claim7 := { stood := { row := stropRepeatsRow, standIns := [], harness := (true, "1a147ad85db366df8d2edd6b870d26fecd8e5f79befd6b2c6e6a1f72bbbb198b"), looks := false }, kinds := [], alts := [], laidByText := true, laidKinds := [.data], laidTests := true, laidLooks := .later }
def StropRepeatsCardSaid : Prop := Claim7.holds Tryd.pinned (.plain (OpenSpec.ofChange stropRepeatsSpec)) stropRepeatsCard

/-- THE SECOND FORM's CARD OF 'hansomlaw11.AddrOff'. -/
def addrOffUptoCard : Claim7 := { stood := { row := addrOffUptoRow, standIns := [], harness := (true, "1a147ad85db366df8d2edd6b870d26fecd8e5f79befd6b2c6e6a1f72bbbb198b"), looks := false }, kinds := [], alts := [], laidByText := true, laidKinds := [.data], laidTests := true, laidLooks := .later }
def AddrOffUptoCardSaid : Prop := Claim7.holds Tryd.pinned (.plain (OpenSpec.upto addrOffSpec)) addrOffUptoCard

/-- THE SECOND FORM's CARD OF 'hansomlaw11.AddrSegs'. -/
def addrSegsUptoCard : Claim7 := { stood := { row := addrSegsUptoRow, standIns := [], harness := (true, "1a147ad85db366df8d2edd6b870d26fecd8e5f79befd6b2c6e6a1f72bbbb198b"), looks := false }, kinds := [], alts := [], laidByText := true, laidKinds := [.data], laidTests := true, laidLooks := .later }
def AddrSegsUptoCardSaid : Prop := Claim7.holds Tryd.pinned (.plain (OpenSpec.upto addrSegsSpec)) addrSegsUptoCard

/-- THE SECOND FORM's CARD OF 'hansomlaw13.CoreOperands'. -/
def coreOperandsUptoCard : Claim7 := { stood := { row := coreOperandsUptoRow, standIns := [], harness := (true, "1a147ad85db366df8d2edd6b870d26fecd8e5f79befd6b2c6e6a1f72bbbb198b"), looks := false }, kinds := [], alts := [], laidByText := true, laidKinds := [.data], laidTests := true, laidLooks := .later }
def CoreOperandsUptoCardSaid : Prop := Claim7.holds Tryd.pinned (.plain (OpenSpec.upto coreOperandsSpec)) coreOperandsUptoCard

/-- THE SECOND FORM's CARD OF 'hansomlaw15.StropOnce'. -/
def stropOnceUptoCard : Claim7 := { stood := { row := stropOnceUptoRow, standIns := [], harness := (true, "1a147ad85db366df8d2edd6b870d26fecd8e5f79befd6b2c6e6a1f72bbbb198b"), looks := false }, kinds := [], alts := [], laidByText := true, laidKinds := [.data], laidTests := true, laidLooks := .later }
def StropOnceUptoCardSaid : Prop := Claim7.holds Tryd.pinned (.plain (OpenSpec.upto stropOnceSpec)) stropOnceUptoCard

/-- THE SECOND FORM's CARD OF 'hansomlaw15.StropWords'. -/
def stropWordsUptoCard : Claim7 := { stood := { row := stropWordsUptoRow, standIns := [], harness := (true, "1a147ad85db366df8d2edd6b870d26fecd8e5f79befd6b2c6e6a1f72bbbb198b"), looks := false }, kinds := [], alts := [], laidByText := true, laidKinds := [.data], laidTests := true, laidLooks := .later }
def StropWordsUptoCardSaid : Prop := Claim7.holds Tryd.pinned (.plain (OpenSpec.upto stropWordsSpec)) stropWordsUptoCard

/-- THE SECOND FORM's CARD OF 'hansomlaw15.StropRepeats'. -/
def stropRepeatsUptoCard : Claim7 := { stood := { row := stropRepeatsUptoRow, standIns := [], harness := (true, "1a147ad85db366df8d2edd6b870d26fecd8e5f79befd6b2c6e6a1f72bbbb198b"), looks := false }, kinds := [], alts := [], laidByText := true, laidKinds := [.data], laidTests := true, laidLooks := .later }
def StropRepeatsUptoCardSaid : Prop := Claim7.holds Tryd.pinned (.plain (OpenSpec.upto stropRepeatsSpec)) stropRepeatsUptoCard
end Rows
end Go.Proofs.YtponkdimnafppaaDoor
