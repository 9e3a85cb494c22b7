/-
  DERIVED. GIVEN WITH THE SEED: THE CARDS: each row of YtnddcicadmbmkaaGreatDoorRows.lean that lists a variable, with what it lists TIED to the program's text (the seventh form; the later family's looks); each row that meets fmt, with fmt's text TOLD by the authors' own Lean function (tested against real Go, not proved from fmt's source: count such statements apart). THE CARD IS WHAT COUNTS. Prove the row's statement (the work); the ties are given (YtnddcicadmbmkaaGreatDoorTie.lean); close each card by the builder's one call (the guide's Derived/Test/ToyasCard.lean, 'card_holds'). Laid BY PROGRAM, IN A SANDBOX (cutbox-door.mjs). By AI agents, Wed Nov 11 2026. No macro, syntax, notation, axiom, sorry.
-/
import Derived.Test.YtnddcicadmbmkaaGreatDoorRows
import GoSem.ClaimSeven
namespace Go.Proofs.YtnddcicadmbmkaaGreatDoor
namespace Rows

/-- THE TIED CARD OF 'vestrylaw03.TermTexts'. -/
def termTextsCard : Claim7 := { stood := { row := termTextsRow, standIns := [], harness := (true, "bc833e428fca9ced55274174fbfb603d30a85fd3385c4e0303030464df21685d"), looks := true }, kinds := [], alts := [], laidByText := true, laidKinds := [.data, .data, .data], laidTests := true, laidLooks := .later }
def TermTextsCardSaid : Prop := Claim7.holds Tryz.pinned (.plain (OpenSpec.ofChange termTextsSpec)) termTextsCard

/-- THE TIED CARD OF 'vestrylaw03.TermSorts'. -/
def termSortsCard : Claim7 := { stood := { row := termSortsRow, standIns := [], harness := (true, "bc833e428fca9ced55274174fbfb603d30a85fd3385c4e0303030464df21685d"), looks := true }, kinds := [], alts := [], laidByText := true, laidKinds := [.data, .data, .data], laidTests := true, laidLooks := .later }
def TermSortsCardSaid : Prop := Claim7.holds Tryz.pinned (.plain (OpenSpec.ofChange termSortsSpec)) termSortsCard

/-- THE TIED CARD OF 'vestrylaw03.TermOrders'. -/
def termOrdersCard : Claim7 := { stood := { row := termOrdersRow, standIns := [], harness := (true, "bc833e428fca9ced55274174fbfb603d30a85fd3385c4e0303030464df21685d"), looks := true }, kinds := [], alts := [], laidByText := true, laidKinds := [.data, .data, .data], laidTests := true, laidLooks := .later }
def TermOrdersCardSaid : Prop := Claim7.holds Tryz.pinned (.plain (OpenSpec.ofChange termOrdersSpec)) termOrdersCard

/-- THE TIED CARD OF 'vestrylaw03.TermUnlike'. -/
def termUnlikeCard : Claim7 := { stood := { row := termUnlikeRow, standIns := [], harness := (true, "bc833e428fca9ced55274174fbfb603d30a85fd3385c4e0303030464df21685d"), looks := true }, kinds := [], alts := [], laidByText := true, laidKinds := [.data, .data, .data], laidTests := true, laidLooks := .later }
def TermUnlikeCardSaid : Prop := Claim7.holds Tryz.pinned (.plain (OpenSpec.ofChange termUnlikeSpec)) termUnlikeCard

/-- THE TIED CARD OF 'vestrylaw03.TermOwn'. -/
def termOwnCard : Claim7 := { stood := { row := termOwnRow, standIns := [], harness := (true, "bc833e428fca9ced55274174fbfb603d30a85fd3385c4e0303030464df21685d"), looks := true }, kinds := [], alts := [], laidByText := true, laidKinds := [.data, .data, .data], laidTests := true, laidLooks := .later }
def TermOwnCardSaid : Prop := Claim7.holds Tryz.pinned (.plain (OpenSpec.ofChange termOwnSpec)) termOwnCard

/-- THE TIED CARD OF 'vestrylaw03.TermBack'. -/
def termBackCard : Claim7 := { stood := { row := termBackRow, standIns := [], harness := (true, "bc833e428fca9ced55274174fbfb603d30a85fd3385c4e0303030464df21685d"), looks := true }, kinds := [], alts := [], laidByText := true, laidKinds := [.data, .data, .data], laidTests := true, laidLooks := .later }
def TermBackCardSaid : Prop := Claim7.holds Tryz.pinned (.plain (OpenSpec.ofChange termBackSpec)) termBackCard

/-- THE TIED CARD OF 'vestrylaw03.TermStores'. -/
def termStoresCard : Claim7 := { stood := { row := termStoresRow, standIns := [], harness := (true, "bc833e428fca9ced55274174fbfb603d30a85fd3385c4e0303030464df21685d"), looks := true }, kinds := [], alts := [], laidByText := true, laidKinds := [.data, .data, .data], laidTests := true, laidLooks := .later }
def TermStoresCardSaid : Prop := Claim7.holds Tryz.pinned (.plain (OpenSpec.ofChange termStoresSpec)) termStoresCard

/-- THE TIED CARD OF 'vestrylaw03.TermNobody'. -/
def termNobodyCard : Claim7 := { stood := { row := termNobodyRow, standIns := [], harness := (true, "bc833e428fca9ced55274174fbfb603d30a85fd3385c4e0303030464df21685d"), looks := true }, kinds := [], alts := [], laidByText := true, laidKinds := [.data, .data, .data], laidTests := true, laidLooks := .later }
def TermNobodyCardSaid : Prop := Claim7.holds Tryz.pinned (.plain (OpenSpec.ofChange termNobodySpec)) termNobodyCard

/-- THE SECOND FORM's CARD OF 'vestrylaw03.TermTexts'. -/
def termTextsUptoCard : Claim7 := { stood := { row := termTextsUptoRow, standIns := [], harness := (true, "bc833e428fca9ced55274174fbfb603d30a85fd3385c4e0303030464df21685d"), looks := true }, kinds := [], alts := [], laidByText := true, laidKinds := [.data, .data, .data], laidTests := true, laidLooks := .later }
def TermTextsUptoCardSaid : Prop := Claim7.holds Tryz.pinned (.plain (OpenSpec.upto termTextsSpec)) termTextsUptoCard

/-- THE SECOND FORM's CARD OF 'vestrylaw03.TermSorts'. -/
def termSortsUptoCard : Claim7 := { stood := { row := termSortsUptoRow, standIns := [], harness := (true, "bc833e428fca9ced55274174fbfb603d30a85fd3385c4e0303030464df21685d"), looks := true }, kinds := [], alts := [], laidByText := true, laidKinds := [.data, .data, .data], laidTests := true, laidLooks := .later }
def TermSortsUptoCardSaid : Prop := Claim7.holds Tryz.pinned (.plain (OpenSpec.upto termSortsSpec)) termSortsUptoCard

/-- THE SECOND FORM's CARD OF 'vestrylaw03.TermOrders'. -/
def termOrdersUptoCard : Claim7 := { stood := { row := termOrdersUptoRow, standIns := [], harness := (true, "bc833e428fca9ced55274174fbfb603d30a85fd3385c4e0303030464df21685d"), looks := true }, kinds := [], alts := [], laidByText := true, laidKinds := [.data, .data, .data], laidTests := true, laidLooks := .later }
def TermOrdersUptoCardSaid : Prop := Claim7.holds Tryz.pinned (.plain (OpenSpec.upto termOrdersSpec)) termOrdersUptoCard

/-- THE SECOND FORM's CARD OF 'vestrylaw03.TermUnlike'. -/
def termUnlikeUptoCard : Claim7 := { stood := { row := termUnlikeUptoRow, standIns := [], harness := (true, "bc833e428fca9ced55274174fbfb603d30a85fd3385c4e0303030464df21685d"), looks := true }, kinds := [], alts := [], laidByText := true, laidKinds := [.data, .data, .data], laidTests := true, laidLooks := .later }
def TermUnlikeUptoCardSaid : Prop := Claim7.holds Tryz.pinned (.plain (OpenSpec.upto termUnlikeSpec)) termUnlikeUptoCard

/-- THE SECOND FORM's CARD OF 'vestrylaw03.TermOwn'. -/
def termOwnUptoCard : Claim7 := { stood := { row := termOwnUptoRow, standIns := [], harness := (true, "bc833e428fca9ced55274174fbfb603d30a85fd3385c4e0303030464df21685d"), looks := true }, kinds := [], alts := [], laidByText := true, laidKinds := [.data, .data, .data], laidTests := true, laidLooks := .later }
def TermOwnUptoCardSaid : Prop := Claim7.holds Tryz.pinned (.plain (OpenSpec.upto termOwnSpec)) termOwnUptoCard

/-- THE SECOND FORM's CARD OF 'vestrylaw03.TermBack'. -/
def termBackUptoCard : Claim7 := { stood := { row := termBackUptoRow, standIns := [], harness := (true, "bc833e428fca9ced55274174fbfb603d30a85fd3385c4e0303030464df21685d"), looks := true }, kinds := [], alts := [], laidByText := true, laidKinds := [.data, .data, .data], laidTests := true, laidLooks := .later }
def TermBackUptoCardSaid : Prop := Claim7.holds Tryz.pinned (.plain (OpenSpec.upto termBackSpec)) termBackUptoCard

/-- THE SECOND FORM's CARD OF 'vestrylaw03.TermStores'. -/
def termStoresUptoCard : Claim7 := { stood := { row := termStoresUptoRow, standIns := [], harness := (true, "bc833e428fca9ced55274174fbfb603d30a85fd3385c4e0303030464df21685d"), looks := true }, kinds := [], alts := [], laidByText := true, laidKinds := [.data, .data, .data], laidTests := true, laidLooks := .later }
def TermStoresUptoCardSaid : Prop := Claim7.holds Tryz.pinned (.plain (OpenSpec.upto termStoresSpec)) termStoresUptoCard

/-- THE SECOND FORM's CARD OF 'vestrylaw03.TermNobody'. -/
def termNobodyUptoCard : Claim7 := { stood := { row := termNobodyUptoRow, standIns := [], harness := (true, "bc833e428fca9ced55274174fbfb603d30a85fd3385c4e0303030464df21685d"), looks := true }, kinds := [], alts := [], laidByText := true, laidKinds := [.data, .data, .data], laidTests := true, laidLooks := .later }
def TermNobodyUptoCardSaid : Prop := Claim7.holds Tryz.pinned (.plain (OpenSpec.upto termNobodySpec)) termNobodyUptoCard
end Rows
end Go.Proofs.YtnddcicadmbmkaaGreatDoor
