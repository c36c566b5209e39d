/-
  DERIVED. GIVEN WITH THE SEED: THE CARDS: each row of YtfcldaojfbbaoaaDoorRows.lean that lists a variable, with what it lists TIED to the program's text (the seventh form; the later family's looks); each row that meets fmt, with fmt's text TOLD by the authors' own Lean function (tested against real Go, not proved from fmt's source: count such statements apart). THE CARD IS WHAT COUNTS. Prove the row's statement (the work); the ties are given (YtfcldaojfbbaoaaDoorTie.lean); close each card by the builder's one call (the guide's Derived/Test/ToyasCard.lean, 'card_holds'). Laid BY PROGRAM, IN A SANDBOX (cutbox-door.mjs). By AI agents, Wed Nov 11 2026. No macro, syntax, notation, axiom, sorry.
-/
import Derived.Test.YtfcldaojfbbaoaaDoorRows
import GoSem.ClaimSeven
namespace Go.Proofs.YtfcldaojfbbaoaaDoor
namespace Rows

/-- THE TIED CARD OF 'testamurlaw41.WalletSpec'. -/
def walletSpecCard : Claim7 := { stood := { row := walletSpecRow, standIns := [], harness := (true, "c5e042698aefdff5e4215b8ad627881f5df2d3f4a99753e7a6645bdee2bc1d44"), looks := false }, kinds := [], alts := [], laidByText := true, laidKinds := [.data, .data], laidTests := true, laidLooks := .later }
def WalletSpecCardSaid : Prop := Claim7.holds Tryd.pinned (.plain (OpenSpec.ofChange walletSpecSpec)) walletSpecCard

/-- THE TIED CARD OF 'testamurlaw41.WalletPutSpec'. -/
def walletPutSpecCard : Claim7 := { stood := { row := walletPutSpecRow, standIns := [], harness := (true, "c5e042698aefdff5e4215b8ad627881f5df2d3f4a99753e7a6645bdee2bc1d44"), looks := false }, kinds := [], alts := [], laidByText := true, laidKinds := [.data, .data], laidTests := true, laidLooks := .later }
def WalletPutSpecCardSaid : Prop := Claim7.holds Tryd.pinned (.plain (OpenSpec.ofChange walletPutSpecSpec)) walletPutSpecCard

/-- THE TIED CARD OF 'testamurlaw41.WalletOffers'. -/
def walletOffersCard : Claim7 := { stood := { row := walletOffersRow, standIns := [], harness := (true, "c5e042698aefdff5e4215b8ad627881f5df2d3f4a99753e7a6645bdee2bc1d44"), looks := false }, kinds := [], alts := [], laidByText := true, laidKinds := [.data, .data], laidTests := true, laidLooks := .later }
def WalletOffersCardSaid : Prop := Claim7.holds Tryd.pinned (.plain (OpenSpec.ofChange walletOffersSpec)) walletOffersCard

/-- THE TIED CARD OF 'testamurlaw41.WalletPut'. -/
def walletPutCard : Claim7 := { stood := { row := walletPutRow, standIns := [], harness := (true, "c5e042698aefdff5e4215b8ad627881f5df2d3f4a99753e7a6645bdee2bc1d44"), looks := false }, kinds := [], alts := [], laidByText := true, laidKinds := [.data, .data], laidTests := true, laidLooks := .later }
def WalletPutCardSaid : Prop := Claim7.holds Tryd.pinned (.plain (OpenSpec.ofChange walletPutSpec)) walletPutCard

/-- THE SECOND FORM's CARD OF 'testamurlaw41.WalletSpec'. -/
def walletSpecUptoCard : Claim7 := { stood := { row := walletSpecUptoRow, standIns := [], harness := (true, "c5e042698aefdff5e4215b8ad627881f5df2d3f4a99753e7a6645bdee2bc1d44"), looks := false }, kinds := [], alts := [], laidByText := true, laidKinds := [.data, .data], laidTests := true, laidLooks := .later }
def WalletSpecUptoCardSaid : Prop := Claim7.holds Tryd.pinned (.plain (OpenSpec.upto walletSpecSpec)) walletSpecUptoCard

/-- THE SECOND FORM's CARD OF 'testamurlaw41.WalletPutSpec'. -/
def walletPutSpecUptoCard : Claim7 := { stood := { row := walletPutSpecUptoRow, standIns := [], harness := (true, "c5e042698aefdff5e4215b8ad627881f5df2d3f4a99753e7a6645bdee2bc1d44"), looks := false }, kinds := [], alts := [], laidByText := true, laidKinds := [.data, .data], laidTests := true, laidLooks := .later }
def WalletPutSpecUptoCardSaid : Prop := Claim7.holds Tryd.pinned (.plain (OpenSpec.upto walletPutSpecSpec)) walletPutSpecUptoCard

/-- THE SECOND FORM's CARD OF 'testamurlaw41.WalletOffers'. -/
def walletOffersUptoCard : Claim7 := { stood := { row := walletOffersUptoRow, standIns := [], harness := (true, "c5e042698aefdff5e4215b8ad627881f5df2d3f4a99753e7a6645bdee2bc1d44"), looks := false }, kinds := [], alts := [], laidByText := true, laidKinds := [.data, .data], laidTests := true, laidLooks := .later }
def WalletOffersUptoCardSaid : Prop := Claim7.holds Tryd.pinned (.plain (OpenSpec.upto walletOffersSpec)) walletOffersUptoCard

/-- THE SECOND FORM's CARD OF 'testamurlaw41.WalletPut'. -/
def walletPutUptoCard : Claim7 := { stood := { row := walletPutUptoRow, standIns := [], harness := (true, "c5e042698aefdff5e4215b8ad627881f5df2d3f4a99753e7a6645bdee2bc1d44"), looks := false }, kinds := [], alts := [], laidByText := true, laidKinds := [.data, .data], laidTests := true, laidLooks := .later }
def WalletPutUptoCardSaid : Prop := Claim7.holds Tryd.pinned (.plain (OpenSpec.upto walletPutSpec)) walletPutUptoCard
end Rows
end Go.Proofs.YtfcldaojfbbaoaaDoor
