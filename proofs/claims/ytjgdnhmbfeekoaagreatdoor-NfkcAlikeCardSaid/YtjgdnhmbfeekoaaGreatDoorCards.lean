/-
  DERIVED. GIVEN WITH THE SEED: THE CARDS: each row of YtjgdnhmbfeekoaaGreatDoorRows.lean that lists a variable, with what it lists TIED to the program's text (the seventh form; the later family's looks); each row that meets fmt, with fmt's text TOLD by the authors' own Lean function (tested against real Go, not proved from fmt's source: count such statements apart). THE CARD IS WHAT COUNTS. Prove the row's statement (the work); the ties are given (YtjgdnhmbfeekoaaGreatDoorTie.lean); close each card by the builder's one call (the guide's Derived/Test/ToyasCard.lean, 'card_holds'). Laid BY PROGRAM, IN A SANDBOX (cutbox-door.mjs). By AI agents, Wed Nov 11 2026. No macro, syntax, notation, axiom, sorry.
-/
import Derived.Test.YtjgdnhmbfeekoaaGreatDoorRows
import GoSem.ClaimSeven
namespace Go.Proofs.YtjgdnhmbfeekoaaGreatDoor
namespace Rows

/-- THE TIED CARD OF 'pentroughlaw05.PairMade'. -/
def pairMadeCard : Claim7 := { stood := { row := pairMadeRow, standIns := [], harness := (true, "6712b6673eef2d460586616864e5b45114fdd2785ef30508483fb3cd4a83b6dd"), looks := true }, kinds := [], alts := [], laidByText := true, laidKinds := [.data, .data, .data, .data, .sentinel, .sentinel, .pinned, .pinned], laidTests := true, laidLooks := .later }
def PairMadeCardSaid : Prop := Claim7.holds Tryz.pinned (.plain (OpenSpec.ofChange pairMadeSpec)) pairMadeCard

/-- THE TIED CARD OF 'pentroughlaw07.CanonComposes'. -/
def canonComposesCard : Claim7 := { stood := { row := canonComposesRow, standIns := [], harness := (true, "6712b6673eef2d460586616864e5b45114fdd2785ef30508483fb3cd4a83b6dd"), looks := true }, kinds := [], alts := [], laidByText := true, laidKinds := [.data, .data, .data, .data, .sentinel, .sentinel, .pinned, .pinned], laidTests := true, laidLooks := .later }
def CanonComposesCardSaid : Prop := Claim7.holds Tryz.pinned (.plain (OpenSpec.ofChange canonComposesSpec)) canonComposesCard

/-- THE TIED CARD OF 'pentroughlaw08.NfkcIs'. -/
def nfkcIsCard : Claim7 := { stood := { row := nfkcIsRow, standIns := [], harness := (true, "6712b6673eef2d460586616864e5b45114fdd2785ef30508483fb3cd4a83b6dd"), looks := true }, kinds := [], alts := [], laidByText := true, laidKinds := [.data, .data, .data, .data, .sentinel, .sentinel, .pinned, .pinned], laidTests := true, laidLooks := .later }
def NfkcIsCardSaid : Prop := Claim7.holds Tryz.pinned (.plain (OpenSpec.ofChange nfkcIsSpec)) nfkcIsCard

/-- THE TIED CARD OF 'pentroughlaw08.NfkcOnce'. -/
def nfkcOnceCard : Claim7 := { stood := { row := nfkcOnceRow, standIns := [], harness := (true, "6712b6673eef2d460586616864e5b45114fdd2785ef30508483fb3cd4a83b6dd"), looks := true }, kinds := [], alts := [], laidByText := true, laidKinds := [.data, .data, .data, .data, .sentinel, .sentinel, .pinned, .pinned], laidTests := true, laidLooks := .later }
def NfkcOnceCardSaid : Prop := Claim7.holds Tryz.pinned (.plain (OpenSpec.ofChange nfkcOnceSpec)) nfkcOnceCard

/-- THE TIED CARD OF 'pentroughlaw08.NfkcRows'. -/
def nfkcRowsCard : Claim7 := { stood := { row := nfkcRowsRow, standIns := [], harness := (true, "6712b6673eef2d460586616864e5b45114fdd2785ef30508483fb3cd4a83b6dd"), looks := true }, kinds := [], alts := [], laidByText := true, laidKinds := [.data, .data, .data, .data, .sentinel, .sentinel, .pinned, .pinned], laidTests := true, laidLooks := .later }
def NfkcRowsCardSaid : Prop := Claim7.holds Tryz.pinned (.plain (OpenSpec.ofChange nfkcRowsSpec)) nfkcRowsCard

/-- THE TIED CARD OF 'pentroughlaw08.NfkcAscii'. -/
def nfkcAsciiCard : Claim7 := { stood := { row := nfkcAsciiRow, standIns := [], harness := (true, "6712b6673eef2d460586616864e5b45114fdd2785ef30508483fb3cd4a83b6dd"), looks := true }, kinds := [], alts := [], laidByText := true, laidKinds := [.data, .data, .data, .data, .sentinel, .sentinel, .pinned, .pinned], laidTests := true, laidLooks := .later }
def NfkcAsciiCardSaid : Prop := Claim7.holds Tryz.pinned (.plain (OpenSpec.ofChange nfkcAsciiSpec)) nfkcAsciiCard

/-- THE TIED CARD OF 'pentroughlaw08.NfkcSafe'. -/
def nfkcSafeCard : Claim7 := { stood := { row := nfkcSafeRow, standIns := [], harness := (true, "6712b6673eef2d460586616864e5b45114fdd2785ef30508483fb3cd4a83b6dd"), looks := true }, kinds := [], alts := [], laidByText := true, laidKinds := [.data, .data, .data, .data, .sentinel, .sentinel, .pinned, .pinned], laidTests := true, laidLooks := .later }
def NfkcSafeCardSaid : Prop := Claim7.holds Tryz.pinned (.plain (OpenSpec.ofChange nfkcSafeSpec)) nfkcSafeCard

/-- THE TIED CARD OF 'pentroughlaw08.NfkcAlike'. -/
def nfkcAlikeCard : Claim7 := { stood := { row := nfkcAlikeRow, standIns := [], harness := (true, "6712b6673eef2d460586616864e5b45114fdd2785ef30508483fb3cd4a83b6dd"), looks := true }, kinds := [], alts := [], laidByText := true, laidKinds := [.data, .data, .data, .data, .sentinel, .sentinel, .pinned, .pinned], laidTests := true, laidLooks := .later }
def NfkcAlikeCardSaid : Prop := Claim7.holds Tryz.pinned (.plain (OpenSpec.ofChange nfkcAlikeSpec)) nfkcAlikeCard

/-- THE TIED CARD OF 'pentroughlaw09.NormKeeps'. -/
def normKeepsCard : Claim7 := { stood := { row := normKeepsRow, standIns := [], harness := (true, "6712b6673eef2d460586616864e5b45114fdd2785ef30508483fb3cd4a83b6dd"), looks := true }, kinds := [], alts := [], laidByText := true, laidKinds := [.data, .data, .data, .data, .sentinel, .sentinel, .pinned, .pinned], laidTests := true, laidLooks := .later }
def NormKeepsCardSaid : Prop := Claim7.holds Tryz.pinned (.plain (OpenSpec.ofChange normKeepsSpec)) normKeepsCard

/-- THE TIED CARD OF 'pentroughlaw09.NormIs'. -/
def normIsCard : Claim7 := { stood := { row := normIsRow, standIns := [], harness := (true, "6712b6673eef2d460586616864e5b45114fdd2785ef30508483fb3cd4a83b6dd"), looks := true }, kinds := [], alts := [], laidByText := true, laidKinds := [.data, .data, .data, .data, .sentinel, .sentinel, .pinned, .pinned], laidTests := true, laidLooks := .later }
def NormIsCardSaid : Prop := Claim7.holds Tryz.pinned (.plain (OpenSpec.ofChange normIsSpec)) normIsCard

/-- THE TIED CARD OF 'pentroughlaw09.NormRows'. -/
def normRowsCard : Claim7 := { stood := { row := normRowsRow, standIns := [], harness := (true, "6712b6673eef2d460586616864e5b45114fdd2785ef30508483fb3cd4a83b6dd"), looks := true }, kinds := [], alts := [], laidByText := true, laidKinds := [.data, .data, .data, .data, .sentinel, .sentinel, .pinned, .pinned], laidTests := true, laidLooks := .later }
def NormRowsCardSaid : Prop := Claim7.holds Tryz.pinned (.plain (OpenSpec.ofChange normRowsSpec)) normRowsCard

/-- THE TIED CARD OF 'pentroughlaw09.NormParts'. -/
def normPartsCard : Claim7 := { stood := { row := normPartsRow, standIns := [], harness := (true, "6712b6673eef2d460586616864e5b45114fdd2785ef30508483fb3cd4a83b6dd"), looks := true }, kinds := [], alts := [], laidByText := true, laidKinds := [.data, .data, .data, .data, .sentinel, .sentinel, .pinned, .pinned], laidTests := true, laidLooks := .later }
def NormPartsCardSaid : Prop := Claim7.holds Tryz.pinned (.plain (OpenSpec.ofChange normPartsSpec)) normPartsCard

/-- THE SECOND FORM's CARD OF 'pentroughlaw05.PairMade'. -/
def pairMadeUptoCard : Claim7 := { stood := { row := pairMadeUptoRow, standIns := [], harness := (true, "6712b6673eef2d460586616864e5b45114fdd2785ef30508483fb3cd4a83b6dd"), looks := true }, kinds := [], alts := [], laidByText := true, laidKinds := [.data, .data, .data, .data, .sentinel, .sentinel, .pinned, .pinned], laidTests := true, laidLooks := .later }
def PairMadeUptoCardSaid : Prop := Claim7.holds Tryz.pinned (.plain (OpenSpec.upto pairMadeSpec)) pairMadeUptoCard

/-- THE SECOND FORM's CARD OF 'pentroughlaw07.CanonComposes'. -/
def canonComposesUptoCard : Claim7 := { stood := { row := canonComposesUptoRow, standIns := [], harness := (true, "6712b6673eef2d460586616864e5b45114fdd2785ef30508483fb3cd4a83b6dd"), looks := true }, kinds := [], alts := [], laidByText := true, laidKinds := [.data, .data, .data, .data, .sentinel, .sentinel, .pinned, .pinned], laidTests := true, laidLooks := .later }
def CanonComposesUptoCardSaid : Prop := Claim7.holds Tryz.pinned (.plain (OpenSpec.upto canonComposesSpec)) canonComposesUptoCard

/-- THE SECOND FORM's CARD OF 'pentroughlaw08.NfkcIs'. -/
def nfkcIsUptoCard : Claim7 := { stood := { row := nfkcIsUptoRow, standIns := [], harness := (true, "6712b6673eef2d460586616864e5b45114fdd2785ef30508483fb3cd4a83b6dd"), looks := true }, kinds := [], alts := [], laidByText := true, laidKinds := [.data, .data, .data, .data, .sentinel, .sentinel, .pinned, .pinned], laidTests := true, laidLooks := .later }
def NfkcIsUptoCardSaid : Prop := Claim7.holds Tryz.pinned (.plain (OpenSpec.upto nfkcIsSpec)) nfkcIsUptoCard

/-- THE SECOND FORM's CARD OF 'pentroughlaw08.NfkcOnce'. -/
def nfkcOnceUptoCard : Claim7 := { stood := { row := nfkcOnceUptoRow, standIns := [], harness := (true, "6712b6673eef2d460586616864e5b45114fdd2785ef30508483fb3cd4a83b6dd"), looks := true }, kinds := [], alts := [], laidByText := true, laidKinds := [.data, .data, .data, .data, .sentinel, .sentinel, .pinned, .pinned], laidTests := true, laidLooks := .later }
def NfkcOnceUptoCardSaid : Prop := Claim7.holds Tryz.pinned (.plain (OpenSpec.upto nfkcOnceSpec)) nfkcOnceUptoCard

/-- THE SECOND FORM's CARD OF 'pentroughlaw08.NfkcRows'. -/
def nfkcRowsUptoCard : Claim7 := { stood := { row := nfkcRowsUptoRow, standIns := [], harness := (true, "6712b6673eef2d460586616864e5b45114fdd2785ef30508483fb3cd4a83b6dd"), looks := true }, kinds := [], alts := [], laidByText := true, laidKinds := [.data, .data, .data, .data, .sentinel, .sentinel, .pinned, .pinned], laidTests := true, laidLooks := .later }
def NfkcRowsUptoCardSaid : Prop := Claim7.holds Tryz.pinned (.plain (OpenSpec.upto nfkcRowsSpec)) nfkcRowsUptoCard

/-- THE SECOND FORM's CARD OF 'pentroughlaw08.NfkcAscii'. -/
def nfkcAsciiUptoCard : Claim7 := { stood := { row := nfkcAsciiUptoRow, standIns := [], harness := (true, "6712b6673eef2d460586616864e5b45114fdd2785ef30508483fb3cd4a83b6dd"), looks := true }, kinds := [], alts := [], laidByText := true, laidKinds := [.data, .data, .data, .data, .sentinel, .sentinel, .pinned, .pinned], laidTests := true, laidLooks := .later }
def NfkcAsciiUptoCardSaid : Prop := Claim7.holds Tryz.pinned (.plain (OpenSpec.upto nfkcAsciiSpec)) nfkcAsciiUptoCard

/-- THE SECOND FORM's CARD OF 'pentroughlaw08.NfkcSafe'. -/
def nfkcSafeUptoCard : Claim7 := { stood := { row := nfkcSafeUptoRow, standIns := [], harness := (true, "6712b6673eef2d460586616864e5b45114fdd2785ef30508483fb3cd4a83b6dd"), looks := true }, kinds := [], alts := [], laidByText := true, laidKinds := [.data, .data, .data, .data, .sentinel, .sentinel, .pinned, .pinned], laidTests := true, laidLooks := .later }
def NfkcSafeUptoCardSaid : Prop := Claim7.holds Tryz.pinned (.plain (OpenSpec.upto nfkcSafeSpec)) nfkcSafeUptoCard

/-- THE SECOND FORM's CARD OF 'pentroughlaw08.NfkcAlike'. -/
def nfkcAlikeUptoCard : Claim7 := { stood := { row := nfkcAlikeUptoRow, standIns := [], harness := (true, "6712b6673eef2d460586616864e5b45114fdd2785ef30508483fb3cd4a83b6dd"), looks := true }, kinds := [], alts := [], laidByText := true, laidKinds := [.data, .data, .data, .data, .sentinel, .sentinel, .pinned, .pinned], laidTests := true, laidLooks := .later }
def NfkcAlikeUptoCardSaid : Prop := Claim7.holds Tryz.pinned (.plain (OpenSpec.upto nfkcAlikeSpec)) nfkcAlikeUptoCard

/-- THE SECOND FORM's CARD OF 'pentroughlaw09.NormKeeps'. -/
def normKeepsUptoCard : Claim7 := { stood := { row := normKeepsUptoRow, standIns := [], harness := (true, "6712b6673eef2d460586616864e5b45114fdd2785ef30508483fb3cd4a83b6dd"), looks := true }, kinds := [], alts := [], laidByText := true, laidKinds := [.data, .data, .data, .data, .sentinel, .sentinel, .pinned, .pinned], laidTests := true, laidLooks := .later }
def NormKeepsUptoCardSaid : Prop := Claim7.holds Tryz.pinned (.plain (OpenSpec.upto normKeepsSpec)) normKeepsUptoCard

/-- THE SECOND FORM's CARD OF 'pentroughlaw09.NormIs'. -/
def normIsUptoCard : Claim7 := { stood := { row := normIsUptoRow, standIns := [], harness := (true, "6712b6673eef2d460586616864e5b45114fdd2785ef30508483fb3cd4a83b6dd"), looks := true }, kinds := [], alts := [], laidByText := true, laidKinds := [.data, .data, .data, .data, .sentinel, .sentinel, .pinned, .pinned], laidTests := true, laidLooks := .later }
def NormIsUptoCardSaid : Prop := Claim7.holds Tryz.pinned (.plain (OpenSpec.upto normIsSpec)) normIsUptoCard

/-- THE SECOND FORM's CARD OF 'pentroughlaw09.NormRows'. -/
def normRowsUptoCard : Claim7 := { stood := { row := normRowsUptoRow, standIns := [], harness := (true, "6712b6673eef2d460586616864e5b45114fdd2785ef30508483fb3cd4a83b6dd"), looks := true }, kinds := [], alts := [], laidByText := true, laidKinds := [.data, .data, .data, .data, .sentinel, .sentinel, .pinned, .pinned], laidTests := true, laidLooks := .later }
def NormRowsUptoCardSaid : Prop := Claim7.holds Tryz.pinned (.plain (OpenSpec.upto normRowsSpec)) normRowsUptoCard

/-- THE SECOND FORM's CARD OF 'pentroughlaw09.NormParts'. -/
def normPartsUptoCard : Claim7 := { stood := { row := normPartsUptoRow, standIns := [], harness := (true, "6712b6673eef2d460586616864e5b45114fdd2785ef30508483fb3cd4a83b6dd"), looks := true }, kinds := [], alts := [], laidByText := true, laidKinds := [.data, .data, .data, .data, .sentinel, .sentinel, .pinned, .pinned], laidTests := true, laidLooks := .later }
def NormPartsUptoCardSaid : Prop := Claim7.holds Tryz.pinned (.plain (OpenSpec.upto normPartsSpec)) normPartsUptoCard
end Rows
end Go.Proofs.YtjgdnhmbfeekoaaGreatDoor
