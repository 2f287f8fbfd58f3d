/-
  DERIVED. GIVEN WITH THE SEED: THE CARDS: each row of YtilbhingfnjppaaDoorRows.lean that lists a variable, with what it lists TIED to the program's text (the seventh form; the later family's looks); each row that meets fmt, with fmt's text TOLD by the authors' own Lean function (tested against real Go, not proved from fmt's source: count such statements apart). THE CARD IS WHAT COUNTS. Prove the row's statement (the work); the ties are given (YtilbhingfnjppaaDoorTie.lean); close each card by the builder's one call (the guide's Derived/Test/ToyasCard.lean, 'card_holds'). Laid BY PROGRAM, IN A SANDBOX (cutbox-door.mjs). By AI agents, Wed Nov 11 2026. No macro, syntax, notation, axiom, sorry.
-/
import Derived.Test.YtilbhingfnjppaaDoorRows
import GoSem.ClaimSeven
namespace Go.Proofs.YtilbhingfnjppaaDoor
namespace Rows

/-- THE TIED CARD OF 'laws.FnExactEndingOf'. -/
def fnExactEndingOfCard : Claim7 := { stood := { row := fnExactEndingOfRow, standIns := [], harness := (true, "eb5f14eca83cee534581f3e1816dc8cc84583323ab02d2c9939b436f340b0772"), looks := false }, kinds := [], alts := [], laidByText := true, laidKinds := [.data, .pinned], laidTests := true, laidLooks := .later }
def FnExactEndingOfCardSaid : Prop := Claim7.holds Tryd.pinned (.plain (OpenSpec.ofChange fnExactEndingOfSpec)) fnExactEndingOfCard

/-- THE TIED CARD OF 'laws.FnSubsts'. -/
def fnSubstsCard : Claim7 := { stood := { row := fnSubstsRow, standIns := [], harness := (true, "eb5f14eca83cee534581f3e1816dc8cc84583323ab02d2c9939b436f340b0772"), looks := false }, kinds := [], alts := [], laidByText := true, laidKinds := [.data, .pinned], laidTests := true, laidLooks := .later }
def FnSubstsCardSaid : Prop := Claim7.holds Tryd.pinned (.plain (OpenSpec.ofChange fnSubstsSpec)) fnSubstsCard

/-- THE TIED CARD OF 'laws.FnChains'. -/
def fnChainsCard : Claim7 := { stood := { row := fnChainsRow, standIns := [], harness := (true, "eb5f14eca83cee534581f3e1816dc8cc84583323ab02d2c9939b436f340b0772"), looks := false }, kinds := [], alts := [], laidByText := true, laidKinds := [.data, .pinned], laidTests := true, laidLooks := .later }
def FnChainsCardSaid : Prop := Claim7.holds Tryd.pinned (.plain (OpenSpec.ofChange fnChainsSpec)) fnChainsCard

/-- THE TIED CARD OF 'laws.FnSums'. -/
def fnSumsCard : Claim7 := { stood := { row := fnSumsRow, standIns := [], harness := (true, "eb5f14eca83cee534581f3e1816dc8cc84583323ab02d2c9939b436f340b0772"), looks := false }, kinds := [], alts := [], laidByText := true, laidKinds := [.data, .pinned], laidTests := true, laidLooks := .later }
def FnSumsCardSaid : Prop := Claim7.holds Tryd.pinned (.plain (OpenSpec.ofChange fnSumsSpec)) fnSumsCard

/-- THE SECOND FORM's CARD OF 'laws.FnExactEndingOf'. -/
def fnExactEndingOfUptoCard : Claim7 := { stood := { row := fnExactEndingOfUptoRow, standIns := [], harness := (true, "eb5f14eca83cee534581f3e1816dc8cc84583323ab02d2c9939b436f340b0772"), looks := false }, kinds := [], alts := [], laidByText := true, laidKinds := [.data, .pinned], laidTests := true, laidLooks := .later }
def FnExactEndingOfUptoCardSaid : Prop := Claim7.holds Tryd.pinned (.plain (OpenSpec.upto fnExactEndingOfSpec)) fnExactEndingOfUptoCard

/-- THE SECOND FORM's CARD OF 'laws.FnSubsts'. -/
def fnSubstsUptoCard : Claim7 := { stood := { row := fnSubstsUptoRow, standIns := [], harness := (true, "eb5f14eca83cee534581f3e1816dc8cc84583323ab02d2c9939b436f340b0772"), looks := false }, kinds := [], alts := [], laidByText := true, laidKinds := [.data, .pinned], laidTests := true, laidLooks := .later }
def FnSubstsUptoCardSaid : Prop := Claim7.holds Tryd.pinned (.plain (OpenSpec.upto fnSubstsSpec)) fnSubstsUptoCard

/-- THE SECOND FORM's CARD OF 'laws.FnChains'. -/
def fnChainsUptoCard : Claim7 := { stood := { row := fnChainsUptoRow, standIns := [], harness := (true, "eb5f14eca83cee534581f3e1816dc8cc84583323ab02d2c9939b436f340b0772"), looks := false }, kinds := [], alts := [], laidByText := true, laidKinds := [.data, .pinned], laidTests := true, laidLooks := .later }
def FnChainsUptoCardSaid : Prop := Claim7.holds Tryd.pinned (.plain (OpenSpec.upto fnChainsSpec)) fnChainsUptoCard

/-- THE SECOND FORM's CARD OF 'laws.FnSums'. -/
def fnSumsUptoCard : Claim7 := { stood := { row := fnSumsUptoRow, standIns := [], harness := (true, "eb5f14eca83cee534581f3e1816dc8cc84583323ab02d2c9939b436f340b0772"), looks := false }, kinds := [], alts := [], laidByText := true, laidKinds := [.data, .pinned], laidTests := true, laidLooks := .later }
def FnSumsUptoCardSaid : Prop := Claim7.holds Tryd.pinned (.plain (OpenSpec.upto fnSumsSpec)) fnSumsUptoCard
end Rows
end Go.Proofs.YtilbhingfnjppaaDoor
