/-
  DERIVED. GIVEN WITH THE SEED: THE CARDS: each row of YtbioclpobmgikaaDoorRows.lean that lists a variable, with what it lists TIED to the program's text (the seventh form; the later family's looks); each row that meets fmt, with fmt's text TOLD by the authors' own Lean function (tested against real Go, not proved from fmt's source: count such statements apart). THE CARD IS WHAT COUNTS. Prove the row's statement (the work); the ties are given (YtbioclpobmgikaaDoorTie.lean); close each card by the builder's one call (the guide's Derived/Test/ToyasCard.lean, 'card_holds'). Laid BY PROGRAM, IN A SANDBOX (cutbox-door.mjs). By AI agents, Wed Nov 11 2026. No macro, syntax, notation, axiom, sorry.
-/
import Derived.Test.YtbioclpobmgikaaDoorRows
import GoSem.ClaimSeven
namespace Go.Proofs.YtbioclpobmgikaaDoor
namespace Rows

/-- THE TIED CARD OF 'crossdocklaw03.ShaTells'. -/
def shaTellsCard : Claim7 := { stood := { row := shaTellsRow, standIns := [], harness := (true, "a4f0652192516fd67473abe0846f896a9714db85df97f4cc6c4909c39ee7f060"), looks := true }, kinds := [], alts := [], laidByText := true, laidKinds := [.data, .data], laidTests := true, laidLooks := .later }
def ShaTellsCardSaid : Prop := Claim7.holds Tryd.pinned (.plain (OpenSpec.ofChange shaTellsSpec)) shaTellsCard

/-- THE TIED CARD OF 'crossdocklaw03.ShaEdges'. -/
def shaEdgesCard : Claim7 := { stood := { row := shaEdgesRow, standIns := [], harness := (true, "a4f0652192516fd67473abe0846f896a9714db85df97f4cc6c4909c39ee7f060"), looks := true }, kinds := [], alts := [], laidByText := true, laidKinds := [.data, .data], laidTests := true, laidLooks := .later }
def ShaEdgesCardSaid : Prop := Claim7.holds Tryd.pinned (.plain (OpenSpec.ofChange shaEdgesSpec)) shaEdgesCard

/-- THE TIED CARD OF 'crossdocklaw03.ShaParts'. -/
def shaPartsCard : Claim7 := { stood := { row := shaPartsRow, standIns := [], harness := (true, "a4f0652192516fd67473abe0846f896a9714db85df97f4cc6c4909c39ee7f060"), looks := true }, kinds := [], alts := [], laidByText := true, laidKinds := [.data, .data], laidTests := true, laidLooks := .later }
def ShaPartsCardSaid : Prop := Claim7.holds Tryd.pinned (.plain (OpenSpec.ofChange shaPartsSpec)) shaPartsCard

/-- THE TIED CARD OF 'crossdocklaw03.ShaNone'. -/
def shaNoneCard : Claim7 := { stood := { row := shaNoneRow, standIns := [], harness := (true, "a4f0652192516fd67473abe0846f896a9714db85df97f4cc6c4909c39ee7f060"), looks := true }, kinds := [], alts := [], laidByText := true, laidKinds := [.data, .data], laidTests := true, laidLooks := .later }
def ShaNoneCardSaid : Prop := Claim7.holds Tryd.pinned (.plain (OpenSpec.ofChange shaNoneSpec)) shaNoneCard

/-- THE TIED CARD OF 'crossdocklaw05.DigestTells'. -/
def digestTellsCard : Claim7 := { stood := { row := digestTellsRow, standIns := [], harness := (true, "a4f0652192516fd67473abe0846f896a9714db85df97f4cc6c4909c39ee7f060"), looks := true }, kinds := [], alts := [], laidByText := true, laidKinds := [.data, .data], laidTests := true, laidLooks := .later }
def DigestTellsCardSaid : Prop := Claim7.holds Tryd.pinned (.plain (OpenSpec.ofChange digestTellsSpec)) digestTellsCard

/-- THE TIED CARD OF 'crossdocklaw05.DigestChains'. -/
def digestChainsCard : Claim7 := { stood := { row := digestChainsRow, standIns := [], harness := (true, "a4f0652192516fd67473abe0846f896a9714db85df97f4cc6c4909c39ee7f060"), looks := true }, kinds := [], alts := [], laidByText := true, laidKinds := [.data, .data], laidTests := true, laidLooks := .later }
def DigestChainsCardSaid : Prop := Claim7.holds Tryd.pinned (.plain (OpenSpec.ofChange digestChainsSpec)) digestChainsCard

/-- THE TIED CARD OF 'crossdocklaw05.DigestVerifies'. -/
def digestVerifiesCard : Claim7 := { stood := { row := digestVerifiesRow, standIns := [], harness := (true, "a4f0652192516fd67473abe0846f896a9714db85df97f4cc6c4909c39ee7f060"), looks := true }, kinds := [], alts := [], laidByText := true, laidKinds := [.data, .data], laidTests := true, laidLooks := .later }
def DigestVerifiesCardSaid : Prop := Claim7.holds Tryd.pinned (.plain (OpenSpec.ofChange digestVerifiesSpec)) digestVerifiesCard

/-- THE TIED CARD OF 'crossdocklaw05.DigestTakes'. -/
def digestTakesCard : Claim7 := { stood := { row := digestTakesRow, standIns := [], harness := (true, "a4f0652192516fd67473abe0846f896a9714db85df97f4cc6c4909c39ee7f060"), looks := true }, kinds := [], alts := [], laidByText := true, laidKinds := [.data, .data], laidTests := true, laidLooks := .later }
def DigestTakesCardSaid : Prop := Claim7.holds Tryd.pinned (.plain (OpenSpec.ofChange digestTakesSpec)) digestTakesCard

/-- THE TIED CARD OF 'crossdocklaw25.IdsOld'. -/
def idsOldCard : Claim7 := { stood := { row := idsOldRow, standIns := [], harness := (true, "a4f0652192516fd67473abe0846f896a9714db85df97f4cc6c4909c39ee7f060"), looks := true }, kinds := [], alts := [], laidByText := true, laidKinds := [.data, .data], laidTests := true, laidLooks := .later }
def IdsOldCardSaid : Prop := Claim7.holds Tryd.pinned (.plain (OpenSpec.ofChange idsOldSpec)) idsOldCard

/-- THE TIED CARD OF 'crossdocklaw25.IdsChains'. -/
def idsChainsCard : Claim7 := { stood := { row := idsChainsRow, standIns := [], harness := (true, "a4f0652192516fd67473abe0846f896a9714db85df97f4cc6c4909c39ee7f060"), looks := true }, kinds := [], alts := [], laidByText := true, laidKinds := [.data, .data], laidTests := true, laidLooks := .later }
def IdsChainsCardSaid : Prop := Claim7.holds Tryd.pinned (.plain (OpenSpec.ofChange idsChainsSpec)) idsChainsCard

/-- THE TIED CARD OF 'crossdocklaw25.IdsGrow'. -/
def idsGrowCard : Claim7 := { stood := { row := idsGrowRow, standIns := [], harness := (true, "a4f0652192516fd67473abe0846f896a9714db85df97f4cc6c4909c39ee7f060"), looks := true }, kinds := [], alts := [], laidByText := true, laidKinds := [.data, .data], laidTests := true, laidLooks := .later }
def IdsGrowCardSaid : Prop := Claim7.holds Tryd.pinned (.plain (OpenSpec.ofChange idsGrowSpec)) idsGrowCard

/-- THE TIED CARD OF 'crossdocklaw25.IdsLines'. -/
def idsLinesCard : Claim7 := { stood := { row := idsLinesRow, standIns := [], harness := (true, "a4f0652192516fd67473abe0846f896a9714db85df97f4cc6c4909c39ee7f060"), looks := true }, kinds := [], alts := [], laidByText := true, laidKinds := [.data, .data], laidTests := true, laidLooks := .later }
def IdsLinesCardSaid : Prop := Claim7.holds Tryd.pinned (.plain (OpenSpec.ofChange idsLinesSpec)) idsLinesCard

/-- THE TIED CARD OF 'crossdocklaw22.StoreFull'. -/
def storeFullCard : Claim7 := { stood := { row := storeFullRow, standIns := [], harness := (true, "a4f0652192516fd67473abe0846f896a9714db85df97f4cc6c4909c39ee7f060"), looks := true }, kinds := [], alts := [], laidByText := true, laidKinds := [.data, .data], laidTests := true, laidLooks := .later }
def StoreFullCardSaid : Prop := Claim7.holds Tryd.pinned (.plain (OpenSpec.ofChange storeFullSpec)) storeFullCard

/-- THE TIED CARD OF 'crossdocklaw22.StoreChecks'. -/
def storeChecksCard : Claim7 := { stood := { row := storeChecksRow, standIns := [], harness := (true, "a4f0652192516fd67473abe0846f896a9714db85df97f4cc6c4909c39ee7f060"), looks := true }, kinds := [], alts := [], laidByText := true, laidKinds := [.data, .data], laidTests := true, laidLooks := .later }
def StoreChecksCardSaid : Prop := Claim7.holds Tryd.pinned (.plain (OpenSpec.ofChange storeChecksSpec)) storeChecksCard

/-- THE TIED CARD OF 'crossdocklaw22.StoreViews'. -/
def storeViewsCard : Claim7 := { stood := { row := storeViewsRow, standIns := [], harness := (true, "a4f0652192516fd67473abe0846f896a9714db85df97f4cc6c4909c39ee7f060"), looks := true }, kinds := [], alts := [], laidByText := true, laidKinds := [.data, .data], laidTests := true, laidLooks := .later }
def StoreViewsCardSaid : Prop := Claim7.holds Tryd.pinned (.plain (OpenSpec.ofChange storeViewsSpec)) storeViewsCard

/-- THE TIED CARD OF 'crossdocklaw22.StoreBack'. -/
def storeBackCard : Claim7 := { stood := { row := storeBackRow, standIns := [], harness := (true, "a4f0652192516fd67473abe0846f896a9714db85df97f4cc6c4909c39ee7f060"), looks := true }, kinds := [], alts := [], laidByText := true, laidKinds := [.data, .data], laidTests := true, laidLooks := .later }
def StoreBackCardSaid : Prop := Claim7.holds Tryd.pinned (.plain (OpenSpec.ofChange storeBackSpec)) storeBackCard

/-- THE SECOND FORM's CARD OF 'crossdocklaw03.ShaTells'. -/
def shaTellsUptoCard : Claim7 := { stood := { row := shaTellsUptoRow, standIns := [], harness := (true, "a4f0652192516fd67473abe0846f896a9714db85df97f4cc6c4909c39ee7f060"), looks := true }, kinds := [], alts := [], laidByText := true, laidKinds := [.data, .data], laidTests := true, laidLooks := .later }
def ShaTellsUptoCardSaid : Prop := Claim7.holds Tryd.pinned (.plain (OpenSpec.upto shaTellsSpec)) shaTellsUptoCard

/-- THE SECOND FORM's CARD OF 'crossdocklaw03.ShaEdges'. -/
def shaEdgesUptoCard : Claim7 := { stood := { row := shaEdgesUptoRow, standIns := [], harness := (true, "a4f0652192516fd67473abe0846f896a9714db85df97f4cc6c4909c39ee7f060"), looks := true }, kinds := [], alts := [], laidByText := true, laidKinds := [.data, .data], laidTests := true, laidLooks := .later }
def ShaEdgesUptoCardSaid : Prop := Claim7.holds Tryd.pinned (.plain (OpenSpec.upto shaEdgesSpec)) shaEdgesUptoCard

/-- THE SECOND FORM's CARD OF 'crossdocklaw03.ShaParts'. -/
def shaPartsUptoCard : Claim7 := { stood := { row := shaPartsUptoRow, standIns := [], harness := (true, "a4f0652192516fd67473abe0846f896a9714db85df97f4cc6c4909c39ee7f060"), looks := true }, kinds := [], alts := [], laidByText := true, laidKinds := [.data, .data], laidTests := true, laidLooks := .later }
def ShaPartsUptoCardSaid : Prop := Claim7.holds Tryd.pinned (.plain (OpenSpec.upto shaPartsSpec)) shaPartsUptoCard

/-- THE SECOND FORM's CARD OF 'crossdocklaw03.ShaNone'. -/
def shaNoneUptoCard : Claim7 := { stood := { row := shaNoneUptoRow, standIns := [], harness := (true, "a4f0652192516fd67473abe0846f896a9714db85df97f4cc6c4909c39ee7f060"), looks := true }, kinds := [], alts := [], laidByText := true, laidKinds := [.data, .data], laidTests := true, laidLooks := .later }
def ShaNoneUptoCardSaid : Prop := Claim7.holds Tryd.pinned (.plain (OpenSpec.upto shaNoneSpec)) shaNoneUptoCard

/-- THE SECOND FORM's CARD OF 'crossdocklaw05.DigestTells'. -/
def digestTellsUptoCard : Claim7 := { stood := { row := digestTellsUptoRow, standIns := [], harness := (true, "a4f0652192516fd67473abe0846f896a9714db85df97f4cc6c4909c39ee7f060"), looks := true }, kinds := [], alts := [], laidByText := true, laidKinds := [.data, .data], laidTests := true, laidLooks := .later }
def DigestTellsUptoCardSaid : Prop := Claim7.holds Tryd.pinned (.plain (OpenSpec.upto digestTellsSpec)) digestTellsUptoCard

/-- THE SECOND FORM's CARD OF 'crossdocklaw05.DigestChains'. -/
def digestChainsUptoCard : Claim7 := { stood := { row := digestChainsUptoRow, standIns := [], harness := (true, "a4f0652192516fd67473abe0846f896a9714db85df97f4cc6c4909c39ee7f060"), looks := true }, kinds := [], alts := [], laidByText := true, laidKinds := [.data, .data], laidTests := true, laidLooks := .later }
def DigestChainsUptoCardSaid : Prop := Claim7.holds Tryd.pinned (.plain (OpenSpec.upto digestChainsSpec)) digestChainsUptoCard

/-- THE SECOND FORM's CARD OF 'crossdocklaw05.DigestVerifies'. -/
def digestVerifiesUptoCard : Claim7 := { stood := { row := digestVerifiesUptoRow, standIns := [], harness := (true, "a4f0652192516fd67473abe0846f896a9714db85df97f4cc6c4909c39ee7f060"), looks := true }, kinds := [], alts := [], laidByText := true, laidKinds := [.data, .data], laidTests := true, laidLooks := .later }
def DigestVerifiesUptoCardSaid : Prop := Claim7.holds Tryd.pinned (.plain (OpenSpec.upto digestVerifiesSpec)) digestVerifiesUptoCard

/-- THE SECOND FORM's CARD OF 'crossdocklaw05.DigestTakes'. -/
def digestTakesUptoCard : Claim7 := { stood := { row := digestTakesUptoRow, standIns := [], harness := (true, "a4f0652192516fd67473abe0846f896a9714db85df97f4cc6c4909c39ee7f060"), looks := true }, kinds := [], alts := [], laidByText := true, laidKinds := [.data, .data], laidTests := true, laidLooks := .later }
def DigestTakesUptoCardSaid : Prop := Claim7.holds Tryd.pinned (.plain (OpenSpec.upto digestTakesSpec)) digestTakesUptoCard

/-- THE SECOND FORM's CARD OF 'crossdocklaw25.IdsOld'. -/
def idsOldUptoCard : Claim7 := { stood := { row := idsOldUptoRow, standIns := [], harness := (true, "a4f0652192516fd67473abe0846f896a9714db85df97f4cc6c4909c39ee7f060"), looks := true }, kinds := [], alts := [], laidByText := true, laidKinds := [.data, .data], laidTests := true, laidLooks := .later }
def IdsOldUptoCardSaid : Prop := Claim7.holds Tryd.pinned (.plain (OpenSpec.upto idsOldSpec)) idsOldUptoCard

/-- THE SECOND FORM's CARD OF 'crossdocklaw25.IdsChains'. -/
def idsChainsUptoCard : Claim7 := { stood := { row := idsChainsUptoRow, standIns := [], harness := (true, "a4f0652192516fd67473abe0846f896a9714db85df97f4cc6c4909c39ee7f060"), looks := true }, kinds := [], alts := [], laidByText := true, laidKinds := [.data, .data], laidTests := true, laidLooks := .later }
def IdsChainsUptoCardSaid : Prop := Claim7.holds Tryd.pinned (.plain (OpenSpec.upto idsChainsSpec)) idsChainsUptoCard

/-- THE SECOND FORM's CARD OF 'crossdocklaw25.IdsGrow'. -/
def idsGrowUptoCard : Claim7 := { stood := { row := idsGrowUptoRow, standIns := [], harness := (true, "a4f0652192516fd67473abe0846f896a9714db85df97f4cc6c4909c39ee7f060"), looks := true }, kinds := [], alts := [], laidByText := true, laidKinds := [.data, .data], laidTests := true, laidLooks := .later }
def IdsGrowUptoCardSaid : Prop := Claim7.holds Tryd.pinned (.plain (OpenSpec.upto idsGrowSpec)) idsGrowUptoCard

/-- THE SECOND FORM's CARD OF 'crossdocklaw25.IdsLines'. -/
def idsLinesUptoCard : Claim7 := { stood := { row := idsLinesUptoRow, standIns := [], harness := (true, "a4f0652192516fd67473abe0846f896a9714db85df97f4cc6c4909c39ee7f060"), looks := true }, kinds := [], alts := [], laidByText := true, laidKinds := [.data, .data], laidTests := true, laidLooks := .later }
def IdsLinesUptoCardSaid : Prop := Claim7.holds Tryd.pinned (.plain (OpenSpec.upto idsLinesSpec)) idsLinesUptoCard

/-- THE SECOND FORM's CARD OF 'crossdocklaw22.StoreFull'. -/
def storeFullUptoCard : Claim7 := { stood := { row := storeFullUptoRow, standIns := [], harness := (true, "a4f0652192516fd67473abe0846f896a9714db85df97f4cc6c4909c39ee7f060"), looks := true }, kinds := [], alts := [], laidByText := true, laidKinds := [.data, .data], laidTests := true, laidLooks := .later }
def StoreFullUptoCardSaid : Prop := Claim7.holds Tryd.pinned (.plain (OpenSpec.upto storeFullSpec)) storeFullUptoCard

/-- THE SECOND FORM's CARD OF 'crossdocklaw22.StoreChecks'. -/
def storeChecksUptoCard : Claim7 := { stood := { row := storeChecksUptoRow, standIns := [], harness := (true, "a4f0652192516fd67473abe0846f896a9714db85df97f4cc6c4909c39ee7f060"), looks := true }, kinds := [], alts := [], laidByText := true, laidKinds := [.data, .data], laidTests := true, laidLooks := .later }
def StoreChecksUptoCardSaid : Prop := Claim7.holds Tryd.pinned (.plain (OpenSpec.upto storeChecksSpec)) storeChecksUptoCard

/-- THE SECOND FORM's CARD OF 'crossdocklaw22.StoreViews'. -/
def storeViewsUptoCard : Claim7 := { stood := { row := storeViewsUptoRow, standIns := [], harness := (true, "a4f0652192516fd67473abe0846f896a9714db85df97f4cc6c4909c39ee7f060"), looks := true }, kinds := [], alts := [], laidByText := true, laidKinds := [.data, .data], laidTests := true, laidLooks := .later }
def StoreViewsUptoCardSaid : Prop := Claim7.holds Tryd.pinned (.plain (OpenSpec.upto storeViewsSpec)) storeViewsUptoCard

/-- THE SECOND FORM's CARD OF 'crossdocklaw22.StoreBack'. -/
def storeBackUptoCard : Claim7 := { stood := { row := storeBackUptoRow, standIns := [], harness := (true, "a4f0652192516fd67473abe0846f896a9714db85df97f4cc6c4909c39ee7f060"), looks := true }, kinds := [], alts := [], laidByText := true, laidKinds := [.data, .data], laidTests := true, laidLooks := .later }
def StoreBackUptoCardSaid : Prop := Claim7.holds Tryd.pinned (.plain (OpenSpec.upto storeBackSpec)) storeBackUptoCard
end Rows
end Go.Proofs.YtbioclpobmgikaaDoor
