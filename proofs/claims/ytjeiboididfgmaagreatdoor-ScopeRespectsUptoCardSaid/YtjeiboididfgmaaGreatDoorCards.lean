/-
  DERIVED. GIVEN WITH THE SEED: THE CARDS: each row of YtjeiboididfgmaaGreatDoorRows.lean that lists a variable, with what it lists TIED to the program's text (the seventh form; the later family's looks); each row that meets fmt, with fmt's text TOLD by the authors' own Lean function (tested against real Go, not proved from fmt's source: count such statements apart). THE CARD IS WHAT COUNTS. Prove the row's statement (the work); the ties are given (YtjeiboididfgmaaGreatDoorTie.lean); close each card by the builder's one call (the guide's Derived/Test/ToyasCard.lean, 'card_holds'). Laid BY PROGRAM, IN A SANDBOX (cutbox-door.mjs). By AI agents, Wed Nov 11 2026. No macro, syntax, notation, axiom, sorry.
-/
import Derived.Test.YtjeiboididfgmaaGreatDoorRows
import GoSem.ClaimSeven
namespace Go.Proofs.YtjeiboididfgmaaGreatDoor
namespace Rows

/-- THE TIED CARD OF 'repriselaw03.ScopeFrees'. -/
def scopeFreesCard : Claim7 := { stood := { row := scopeFreesRow, standIns := [], harness := (true, "ffd527d5d88f8070bae8a07f784cbff055c8c072a836ea7ce85ab1d87c429718"), looks := true }, kinds := [], alts := [], laidByText := true, laidKinds := [.data, .data, .data, .listed, .data, .data], laidTests := true, laidLooks := .later }
def ScopeFreesCardSaid : Prop := Claim7.holds Tryz.pinned (.plain (OpenSpec.ofChange scopeFreesSpec)) scopeFreesCard

/-- THE TIED CARD OF 'repriselaw03.ScopeNames'. -/
def scopeNamesCard : Claim7 := { stood := { row := scopeNamesRow, standIns := [], harness := (true, "ffd527d5d88f8070bae8a07f784cbff055c8c072a836ea7ce85ab1d87c429718"), looks := true }, kinds := [], alts := [], laidByText := true, laidKinds := [.data, .data, .data, .listed, .data, .data], laidTests := true, laidLooks := .later }
def ScopeNamesCardSaid : Prop := Claim7.holds Tryz.pinned (.plain (OpenSpec.ofChange scopeNamesSpec)) scopeNamesCard

/-- THE TIED CARD OF 'repriselaw03.ScopeSubsts'. -/
def scopeSubstsCard : Claim7 := { stood := { row := scopeSubstsRow, standIns := [], harness := (true, "ffd527d5d88f8070bae8a07f784cbff055c8c072a836ea7ce85ab1d87c429718"), looks := true }, kinds := [], alts := [], laidByText := true, laidKinds := [.data, .data, .data, .listed, .data, .data], laidTests := true, laidLooks := .later }
def ScopeSubstsCardSaid : Prop := Claim7.holds Tryz.pinned (.plain (OpenSpec.ofChange scopeSubstsSpec)) scopeSubstsCard

/-- THE TIED CARD OF 'repriselaw03.ScopeAlphas'. -/
def scopeAlphasCard : Claim7 := { stood := { row := scopeAlphasRow, standIns := [], harness := (true, "ffd527d5d88f8070bae8a07f784cbff055c8c072a836ea7ce85ab1d87c429718"), looks := true }, kinds := [], alts := [], laidByText := true, laidKinds := [.data, .data, .data, .listed, .data, .data], laidTests := true, laidLooks := .later }
def ScopeAlphasCardSaid : Prop := Claim7.holds Tryz.pinned (.plain (OpenSpec.ofChange scopeAlphasSpec)) scopeAlphasCard

/-- THE TIED CARD OF 'repriselaw03.ScopeKnown'. -/
def scopeKnownCard : Claim7 := { stood := { row := scopeKnownRow, standIns := [], harness := (true, "ffd527d5d88f8070bae8a07f784cbff055c8c072a836ea7ce85ab1d87c429718"), looks := true }, kinds := [], alts := [], laidByText := true, laidKinds := [.data, .data, .data, .listed, .data, .data], laidTests := true, laidLooks := .later }
def ScopeKnownCardSaid : Prop := Claim7.holds Tryz.pinned (.plain (OpenSpec.ofChange scopeKnownSpec)) scopeKnownCard

/-- THE TIED CARD OF 'repriselaw03.ScopeSubstFree'. -/
def scopeSubstFreeCard : Claim7 := { stood := { row := scopeSubstFreeRow, standIns := [], harness := (true, "ffd527d5d88f8070bae8a07f784cbff055c8c072a836ea7ce85ab1d87c429718"), looks := true }, kinds := [], alts := [], laidByText := true, laidKinds := [.data, .data, .data, .listed, .data, .data], laidTests := true, laidLooks := .later }
def ScopeSubstFreeCardSaid : Prop := Claim7.holds Tryz.pinned (.plain (OpenSpec.ofChange scopeSubstFreeSpec)) scopeSubstFreeCard

/-- THE TIED CARD OF 'repriselaw03.ScopeCommute'. -/
def scopeCommuteCard : Claim7 := { stood := { row := scopeCommuteRow, standIns := [], harness := (true, "ffd527d5d88f8070bae8a07f784cbff055c8c072a836ea7ce85ab1d87c429718"), looks := true }, kinds := [], alts := [], laidByText := true, laidKinds := [.data, .data, .data, .listed, .data, .data], laidTests := true, laidLooks := .later }
def ScopeCommuteCardSaid : Prop := Claim7.holds Tryz.pinned (.plain (OpenSpec.ofChange scopeCommuteSpec)) scopeCommuteCard

/-- THE TIED CARD OF 'repriselaw03.ScopeRespects'. -/
def scopeRespectsCard : Claim7 := { stood := { row := scopeRespectsRow, standIns := [], harness := (true, "ffd527d5d88f8070bae8a07f784cbff055c8c072a836ea7ce85ab1d87c429718"), looks := true }, kinds := [], alts := [], laidByText := true, laidKinds := [.data, .data, .data, .listed, .data, .data], laidTests := true, laidLooks := .later }
def ScopeRespectsCardSaid : Prop := Claim7.holds Tryz.pinned (.plain (OpenSpec.ofChange scopeRespectsSpec)) scopeRespectsCard

/-- THE TIED CARD OF 'repriselaw03.ScopeAlpha'. -/
def scopeAlphaCard : Claim7 := { stood := { row := scopeAlphaRow, standIns := [], harness := (true, "ffd527d5d88f8070bae8a07f784cbff055c8c072a836ea7ce85ab1d87c429718"), looks := true }, kinds := [], alts := [], laidByText := true, laidKinds := [.data, .data, .data, .listed, .data, .data], laidTests := true, laidLooks := .later }
def ScopeAlphaCardSaid : Prop := Claim7.holds Tryz.pinned (.plain (OpenSpec.ofChange scopeAlphaSpec)) scopeAlphaCard

/-- THE TIED CARD OF 'repriselaw03.ScopeCanon'. -/
def scopeCanonCard : Claim7 := { stood := { row := scopeCanonRow, standIns := [], harness := (true, "ffd527d5d88f8070bae8a07f784cbff055c8c072a836ea7ce85ab1d87c429718"), looks := true }, kinds := [], alts := [], laidByText := true, laidKinds := [.data, .data, .data, .listed, .data, .data], laidTests := true, laidLooks := .later }
def ScopeCanonCardSaid : Prop := Claim7.holds Tryz.pinned (.plain (OpenSpec.ofChange scopeCanonSpec)) scopeCanonCard

/-- THE TIED CARD OF 'repriselaw03.ScopeUnique'. -/
def scopeUniqueCard : Claim7 := { stood := { row := scopeUniqueRow, standIns := [], harness := (true, "ffd527d5d88f8070bae8a07f784cbff055c8c072a836ea7ce85ab1d87c429718"), looks := true }, kinds := [], alts := [], laidByText := true, laidKinds := [.data, .data, .data, .listed, .data, .data], laidTests := true, laidLooks := .later }
def ScopeUniqueCardSaid : Prop := Claim7.holds Tryz.pinned (.plain (OpenSpec.ofChange scopeUniqueSpec)) scopeUniqueCard

/-- THE SECOND FORM's CARD OF 'repriselaw03.ScopeFrees'. -/
def scopeFreesUptoCard : Claim7 := { stood := { row := scopeFreesUptoRow, standIns := [], harness := (true, "ffd527d5d88f8070bae8a07f784cbff055c8c072a836ea7ce85ab1d87c429718"), looks := true }, kinds := [], alts := [], laidByText := true, laidKinds := [.data, .data, .data, .listed, .data, .data], laidTests := true, laidLooks := .later }
def ScopeFreesUptoCardSaid : Prop := Claim7.holds Tryz.pinned (.plain (OpenSpec.upto scopeFreesSpec)) scopeFreesUptoCard

/-- THE SECOND FORM's CARD OF 'repriselaw03.ScopeNames'. -/
def scopeNamesUptoCard : Claim7 := { stood := { row := scopeNamesUptoRow, standIns := [], harness := (true, "ffd527d5d88f8070bae8a07f784cbff055c8c072a836ea7ce85ab1d87c429718"), looks := true }, kinds := [], alts := [], laidByText := true, laidKinds := [.data, .data, .data, .listed, .data, .data], laidTests := true, laidLooks := .later }
def ScopeNamesUptoCardSaid : Prop := Claim7.holds Tryz.pinned (.plain (OpenSpec.upto scopeNamesSpec)) scopeNamesUptoCard

/-- THE SECOND FORM's CARD OF 'repriselaw03.ScopeSubsts'. -/
def scopeSubstsUptoCard : Claim7 := { stood := { row := scopeSubstsUptoRow, standIns := [], harness := (true, "ffd527d5d88f8070bae8a07f784cbff055c8c072a836ea7ce85ab1d87c429718"), looks := true }, kinds := [], alts := [], laidByText := true, laidKinds := [.data, .data, .data, .listed, .data, .data], laidTests := true, laidLooks := .later }
def ScopeSubstsUptoCardSaid : Prop := Claim7.holds Tryz.pinned (.plain (OpenSpec.upto scopeSubstsSpec)) scopeSubstsUptoCard

/-- THE SECOND FORM's CARD OF 'repriselaw03.ScopeAlphas'. -/
def scopeAlphasUptoCard : Claim7 := { stood := { row := scopeAlphasUptoRow, standIns := [], harness := (true, "ffd527d5d88f8070bae8a07f784cbff055c8c072a836ea7ce85ab1d87c429718"), looks := true }, kinds := [], alts := [], laidByText := true, laidKinds := [.data, .data, .data, .listed, .data, .data], laidTests := true, laidLooks := .later }
def ScopeAlphasUptoCardSaid : Prop := Claim7.holds Tryz.pinned (.plain (OpenSpec.upto scopeAlphasSpec)) scopeAlphasUptoCard

/-- THE SECOND FORM's CARD OF 'repriselaw03.ScopeKnown'. -/
def scopeKnownUptoCard : Claim7 := { stood := { row := scopeKnownUptoRow, standIns := [], harness := (true, "ffd527d5d88f8070bae8a07f784cbff055c8c072a836ea7ce85ab1d87c429718"), looks := true }, kinds := [], alts := [], laidByText := true, laidKinds := [.data, .data, .data, .listed, .data, .data], laidTests := true, laidLooks := .later }
def ScopeKnownUptoCardSaid : Prop := Claim7.holds Tryz.pinned (.plain (OpenSpec.upto scopeKnownSpec)) scopeKnownUptoCard

/-- THE SECOND FORM's CARD OF 'repriselaw03.ScopeSubstFree'. -/
def scopeSubstFreeUptoCard : Claim7 := { stood := { row := scopeSubstFreeUptoRow, standIns := [], harness := (true, "ffd527d5d88f8070bae8a07f784cbff055c8c072a836ea7ce85ab1d87c429718"), looks := true }, kinds := [], alts := [], laidByText := true, laidKinds := [.data, .data, .data, .listed, .data, .data], laidTests := true, laidLooks := .later }
def ScopeSubstFreeUptoCardSaid : Prop := Claim7.holds Tryz.pinned (.plain (OpenSpec.upto scopeSubstFreeSpec)) scopeSubstFreeUptoCard

/-- THE SECOND FORM's CARD OF 'repriselaw03.ScopeCommute'. -/
def scopeCommuteUptoCard : Claim7 := { stood := { row := scopeCommuteUptoRow, standIns := [], harness := (true, "ffd527d5d88f8070bae8a07f784cbff055c8c072a836ea7ce85ab1d87c429718"), looks := true }, kinds := [], alts := [], laidByText := true, laidKinds := [.data, .data, .data, .listed, .data, .data], laidTests := true, laidLooks := .later }
def ScopeCommuteUptoCardSaid : Prop := Claim7.holds Tryz.pinned (.plain (OpenSpec.upto scopeCommuteSpec)) scopeCommuteUptoCard

/-- THE SECOND FORM's CARD OF 'repriselaw03.ScopeRespects'. -/
def scopeRespectsUptoCard : Claim7 := { stood := { row := scopeRespectsUptoRow, standIns := [], harness := (true, "ffd527d5d88f8070bae8a07f784cbff055c8c072a836ea7ce85ab1d87c429718"), looks := true }, kinds := [], alts := [], laidByText := true, laidKinds := [.data, .data, .data, .listed, .data, .data], laidTests := true, laidLooks := .later }
def ScopeRespectsUptoCardSaid : Prop := Claim7.holds Tryz.pinned (.plain (OpenSpec.upto scopeRespectsSpec)) scopeRespectsUptoCard

/-- THE SECOND FORM's CARD OF 'repriselaw03.ScopeAlpha'. -/
def scopeAlphaUptoCard : Claim7 := { stood := { row := scopeAlphaUptoRow, standIns := [], harness := (true, "ffd527d5d88f8070bae8a07f784cbff055c8c072a836ea7ce85ab1d87c429718"), looks := true }, kinds := [], alts := [], laidByText := true, laidKinds := [.data, .data, .data, .listed, .data, .data], laidTests := true, laidLooks := .later }
def ScopeAlphaUptoCardSaid : Prop := Claim7.holds Tryz.pinned (.plain (OpenSpec.upto scopeAlphaSpec)) scopeAlphaUptoCard

/-- THE SECOND FORM's CARD OF 'repriselaw03.ScopeCanon'. -/
def scopeCanonUptoCard : Claim7 := { stood := { row := scopeCanonUptoRow, standIns := [], harness := (true, "ffd527d5d88f8070bae8a07f784cbff055c8c072a836ea7ce85ab1d87c429718"), looks := true }, kinds := [], alts := [], laidByText := true, laidKinds := [.data, .data, .data, .listed, .data, .data], laidTests := true, laidLooks := .later }
def ScopeCanonUptoCardSaid : Prop := Claim7.holds Tryz.pinned (.plain (OpenSpec.upto scopeCanonSpec)) scopeCanonUptoCard

/-- THE SECOND FORM's CARD OF 'repriselaw03.ScopeUnique'. -/
def scopeUniqueUptoCard : Claim7 := { stood := { row := scopeUniqueUptoRow, standIns := [], harness := (true, "ffd527d5d88f8070bae8a07f784cbff055c8c072a836ea7ce85ab1d87c429718"), looks := true }, kinds := [], alts := [], laidByText := true, laidKinds := [.data, .data, .data, .listed, .data, .data], laidTests := true, laidLooks := .later }
def ScopeUniqueUptoCardSaid : Prop := Claim7.holds Tryz.pinned (.plain (OpenSpec.upto scopeUniqueSpec)) scopeUniqueUptoCard
end Rows
end Go.Proofs.YtjeiboididfgmaaGreatDoor
