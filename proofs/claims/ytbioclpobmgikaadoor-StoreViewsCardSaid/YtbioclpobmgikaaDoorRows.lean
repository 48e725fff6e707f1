/-
  NARROWER THAN 'FOR EVERY INPUT', by the rows' own cells (each row's printed sentence says how): ShaTells: laid · ShaEdges: laid · ShaParts: laid · ShaNone: laid · DigestTells: laid · DigestChains: laid · DigestVerifies: laid · DigestTakes: laid · IdsOld: laid · IdsChains: laid · IdsGrow: laid · IdsLines: laid · StoreFull: laid · StoreChecks: laid · StoreViews: laid · StoreBack: laid.
  DERIVED. THE GIVEN ROWS OF THIS SEAT. 16 by the template 'for every input the law returns true; each argument reads behind the call as it read before'; 0 by the template 'total and deterministic' (their statements: YtbioclpobmgikaaDoorTotals.lean).
  GIVEN WITH THE SEED: the statements are not yours to turn. If you find one false, say at which input.
  Laid BY PROGRAM, IN A SANDBOX (cutbox-rows.mjs): the forced cells as the released guide's own fill.sh prints them over the translation 314d38aee13bfb76… (all of the seat's roots in one cut). By AI agents, Wed Nov 11 2026. No macro, syntax, notation, axiom, sorry.
-/
import Derived.Test.YtbioclpobmgikaaDoorChecked
import GoSem.Claim
import GoSem.ClaimJoined
import GoSem.ClaimMapViews
import Derived.JoinedTies
import Derived.KernelRfl
namespace Go.Proofs.YtbioclpobmgikaaDoor
/- THE CELL 'sum', in the pinned program and in every row, IS THE sha256 OF THE DUMP (.gsa) THAT YtbioclpobmgikaaDoorProg.lean LOADS. Nothing in Lean hashes anything: it is a label: what it is worth is what the hold of that sum in a sandbox is worth. -/
noncomputable def Tryd.pinned : Pinned := { name := "ytbioclpobmgikaadoor", sum := "314d38aee13bfb761b411c96b894234113322d619b5442244edabdba73416168", checked := Tryd.checked }
namespace Rows
def none {H : Type} : Left H := { results := [], args := [] }

/- WHAT THE LISTED PACKAGE-LEVEL VARIABLES READ AS WHEN THE CALL BEGINS. Each datum BY PROGRAM (the guide's laid-datum.mjs) off the statement by which the dump's own 'gosem.cut.vars' lays the variable. In a bare row this is a premise. The card (YtbioclpobmgikaaDoorCards.lean) ties it to the program's text. -/
def laid_crossdock_sha_first {H : Type} : DataW H := .agg [.lit (.int .u32 1779033703), .lit (.int .u32 3144134277), .lit (.int .u32 1013904242), .lit (.int .u32 2773480762), .lit (.int .u32 1359893119), .lit (.int .u32 2600822924), .lit (.int .u32 528734635), .lit (.int .u32 1541459225)]
def laid_crossdock_sha_constants {H : Type} : DataW H := .agg [.lit (.int .u32 1116352408), .lit (.int .u32 1899447441), .lit (.int .u32 3049323471), .lit (.int .u32 3921009573), .lit (.int .u32 961987163), .lit (.int .u32 1508970993), .lit (.int .u32 2453635748), .lit (.int .u32 2870763221), .lit (.int .u32 3624381080), .lit (.int .u32 310598401), .lit (.int .u32 607225278), .lit (.int .u32 1426881987), .lit (.int .u32 1925078388), .lit (.int .u32 2162078206), .lit (.int .u32 2614888103), .lit (.int .u32 3248222580), .lit (.int .u32 3835390401), .lit (.int .u32 4022224774), .lit (.int .u32 264347078), .lit (.int .u32 604807628), .lit (.int .u32 770255983), .lit (.int .u32 1249150122), .lit (.int .u32 1555081692), .lit (.int .u32 1996064986), .lit (.int .u32 2554220882), .lit (.int .u32 2821834349), .lit (.int .u32 2952996808), .lit (.int .u32 3210313671), .lit (.int .u32 3336571891), .lit (.int .u32 3584528711), .lit (.int .u32 113926993), .lit (.int .u32 338241895), .lit (.int .u32 666307205), .lit (.int .u32 773529912), .lit (.int .u32 1294757372), .lit (.int .u32 1396182291), .lit (.int .u32 1695183700), .lit (.int .u32 1986661051), .lit (.int .u32 2177026350), .lit (.int .u32 2456956037), .lit (.int .u32 2730485921), .lit (.int .u32 2820302411), .lit (.int .u32 3259730800), .lit (.int .u32 3345764771), .lit (.int .u32 3516065817), .lit (.int .u32 3600352804), .lit (.int .u32 4094571909), .lit (.int .u32 275423344), .lit (.int .u32 430227734), .lit (.int .u32 506948616), .lit (.int .u32 659060556), .lit (.int .u32 883997877), .lit (.int .u32 958139571), .lit (.int .u32 1322822218), .lit (.int .u32 1537002063), .lit (.int .u32 1747873779), .lit (.int .u32 1955562222), .lit (.int .u32 2024104815), .lit (.int .u32 2227730452), .lit (.int .u32 2361852424), .lit (.int .u32 2428436474), .lit (.int .u32 2756734187), .lit (.int .u32 3204031479), .lit (.int .u32 3329325298)]

/-- 'crossdocklaw03.ShaTells': WHATEVER THE INPUT: true; the input reads as it did. -/
def shaTellsSpec : ChangeSpec := { name := "shaTells", fn := fun _ => fun
  | [d] => { results := [.lit (.bool true)], args := [d] }
  | _ => none }
def shaTellsRow : OpenClaim := { program := "ytbioclpobmgikaadoor", sum := "314d38aee13bfb761b411c96b894234113322d619b5442244edabdba73416168", func := "crossdock/crossdocklaw03.ShaTells", spec := "shaTells", recurses := true, named := ["crossdock/sha.first", "crossdock/sha.constants"], apart := false, laid := [("crossdock/sha.first", laid_crossdock_sha_first), ("crossdock/sha.constants", laid_crossdock_sha_constants)] }
def ShaTellsSaid : Prop := shaTellsRow.holds Tryd.pinned (OpenSpec.ofChange shaTellsSpec)

/-- ITS FALSE NEIGHBOUR: 'it returns false'. Refute it at one input. -/
def shaTellsWrong : ChangeSpec := { name := "shaTells", fn := fun _ => fun
  | [d] => { results := [.lit (.bool false)], args := [d] }
  | _ => none }
def ShaTellsWrongFalsely : Prop := shaTellsRow.holds Tryd.pinned (OpenSpec.ofChange shaTellsWrong)

/-- 'crossdocklaw03.ShaEdges': WHATEVER THE INPUT: true; the input reads as it did. -/
def shaEdgesSpec : ChangeSpec := { name := "shaEdges", fn := fun _ => fun
  | [d1, d2] => { results := [.lit (.bool true)], args := [d1, d2] }
  | _ => none }
def shaEdgesRow : OpenClaim := { program := "ytbioclpobmgikaadoor", sum := "314d38aee13bfb761b411c96b894234113322d619b5442244edabdba73416168", func := "crossdock/crossdocklaw03.ShaEdges", spec := "shaEdges", recurses := true, named := ["crossdock/sha.first", "crossdock/sha.constants"], apart := false, laid := [("crossdock/sha.first", laid_crossdock_sha_first), ("crossdock/sha.constants", laid_crossdock_sha_constants)] }
def ShaEdgesSaid : Prop := shaEdgesRow.holds Tryd.pinned (OpenSpec.ofChange shaEdgesSpec)

/-- ITS FALSE NEIGHBOUR: 'it returns false'. Refute it at one input. -/
def shaEdgesWrong : ChangeSpec := { name := "shaEdges", fn := fun _ => fun
  | [d1, d2] => { results := [.lit (.bool false)], args := [d1, d2] }
  | _ => none }
def ShaEdgesWrongFalsely : Prop := shaEdgesRow.holds Tryd.pinned (OpenSpec.ofChange shaEdgesWrong)

/-- 'crossdocklaw03.ShaParts': WHATEVER THE INPUT: true; the input reads as it did. -/
def shaPartsSpec : ChangeSpec := { name := "shaParts", fn := fun _ => fun
  | [d] => { results := [.lit (.bool true)], args := [d] }
  | _ => none }
def shaPartsRow : OpenClaim := { program := "ytbioclpobmgikaadoor", sum := "314d38aee13bfb761b411c96b894234113322d619b5442244edabdba73416168", func := "crossdock/crossdocklaw03.ShaParts", spec := "shaParts", recurses := true, named := ["crossdock/sha.first", "crossdock/sha.constants"], apart := false, laid := [("crossdock/sha.first", laid_crossdock_sha_first), ("crossdock/sha.constants", laid_crossdock_sha_constants)] }
def ShaPartsSaid : Prop := shaPartsRow.holds Tryd.pinned (OpenSpec.ofChange shaPartsSpec)

/-- ITS FALSE NEIGHBOUR: 'it returns false'. Refute it at one input. -/
def shaPartsWrong : ChangeSpec := { name := "shaParts", fn := fun _ => fun
  | [d] => { results := [.lit (.bool false)], args := [d] }
  | _ => none }
def ShaPartsWrongFalsely : Prop := shaPartsRow.holds Tryd.pinned (OpenSpec.ofChange shaPartsWrong)

/-- 'crossdocklaw03.ShaNone': WHATEVER THE INPUT: true; the input reads as it did. -/
def shaNoneSpec : ChangeSpec := { name := "shaNone", fn := fun _ => fun
  | [d] => { results := [.lit (.bool true)], args := [d] }
  | _ => none }
def shaNoneRow : OpenClaim := { program := "ytbioclpobmgikaadoor", sum := "314d38aee13bfb761b411c96b894234113322d619b5442244edabdba73416168", func := "crossdock/crossdocklaw03.ShaNone", spec := "shaNone", recurses := true, named := ["crossdock/sha.first", "crossdock/sha.constants"], apart := false, laid := [("crossdock/sha.first", laid_crossdock_sha_first), ("crossdock/sha.constants", laid_crossdock_sha_constants)] }
def ShaNoneSaid : Prop := shaNoneRow.holds Tryd.pinned (OpenSpec.ofChange shaNoneSpec)

/-- ITS FALSE NEIGHBOUR: 'it returns false'. Refute it at one input. -/
def shaNoneWrong : ChangeSpec := { name := "shaNone", fn := fun _ => fun
  | [d] => { results := [.lit (.bool false)], args := [d] }
  | _ => none }
def ShaNoneWrongFalsely : Prop := shaNoneRow.holds Tryd.pinned (OpenSpec.ofChange shaNoneWrong)

/-- 'crossdocklaw05.DigestTells': WHATEVER THE INPUT: true; the input reads as it did. -/
def digestTellsSpec : ChangeSpec := { name := "digestTells", fn := fun _ => fun
  | [d1, d2] => { results := [.lit (.bool true)], args := [d1, d2] }
  | _ => none }
def digestTellsRow : OpenClaim := { program := "ytbioclpobmgikaadoor", sum := "314d38aee13bfb761b411c96b894234113322d619b5442244edabdba73416168", func := "crossdock/crossdocklaw05.DigestTells", spec := "digestTells", inPlace := ["internal/abi.NoEscape"], recurses := true, named := ["crossdock/sha.first", "crossdock/sha.constants"], apart := false, laid := [("crossdock/sha.first", laid_crossdock_sha_first), ("crossdock/sha.constants", laid_crossdock_sha_constants)] }
def DigestTellsSaid : Prop := digestTellsRow.holds Tryd.pinned (OpenSpec.ofChange digestTellsSpec)

/-- ITS FALSE NEIGHBOUR: 'it returns false'. Refute it at one input. -/
def digestTellsWrong : ChangeSpec := { name := "digestTells", fn := fun _ => fun
  | [d1, d2] => { results := [.lit (.bool false)], args := [d1, d2] }
  | _ => none }
def DigestTellsWrongFalsely : Prop := digestTellsRow.holds Tryd.pinned (OpenSpec.ofChange digestTellsWrong)

/-- 'crossdocklaw05.DigestChains': WHATEVER THE INPUT: true; the input reads as it did. -/
def digestChainsSpec : ChangeSpec := { name := "digestChains", fn := fun _ => fun
  | [d1, d2] => { results := [.lit (.bool true)], args := [d1, d2] }
  | _ => none }
def digestChainsRow : OpenClaim := { program := "ytbioclpobmgikaadoor", sum := "314d38aee13bfb761b411c96b894234113322d619b5442244edabdba73416168", func := "crossdock/crossdocklaw05.DigestChains", spec := "digestChains", inPlace := ["internal/abi.NoEscape"], recurses := true, named := ["crossdock/sha.first", "crossdock/sha.constants"], apart := false, laid := [("crossdock/sha.first", laid_crossdock_sha_first), ("crossdock/sha.constants", laid_crossdock_sha_constants)] }
def DigestChainsSaid : Prop := digestChainsRow.holds Tryd.pinned (OpenSpec.ofChange digestChainsSpec)

/-- ITS FALSE NEIGHBOUR: 'it returns false'. Refute it at one input. -/
def digestChainsWrong : ChangeSpec := { name := "digestChains", fn := fun _ => fun
  | [d1, d2] => { results := [.lit (.bool false)], args := [d1, d2] }
  | _ => none }
def DigestChainsWrongFalsely : Prop := digestChainsRow.holds Tryd.pinned (OpenSpec.ofChange digestChainsWrong)

/-- 'crossdocklaw05.DigestVerifies': WHATEVER THE INPUT: true; the input reads as it did. -/
def digestVerifiesSpec : ChangeSpec := { name := "digestVerifies", fn := fun _ => fun
  | [d1, d2] => { results := [.lit (.bool true)], args := [d1, d2] }
  | _ => none }
def digestVerifiesRow : OpenClaim := { program := "ytbioclpobmgikaadoor", sum := "314d38aee13bfb761b411c96b894234113322d619b5442244edabdba73416168", func := "crossdock/crossdocklaw05.DigestVerifies", spec := "digestVerifies", inPlace := ["internal/abi.NoEscape", "internal/bytealg.IndexByteString"], recurses := true, named := ["crossdock/sha.first", "crossdock/sha.constants"], apart := false, laid := [("crossdock/sha.first", laid_crossdock_sha_first), ("crossdock/sha.constants", laid_crossdock_sha_constants)] }
def DigestVerifiesSaid : Prop := digestVerifiesRow.holds Tryd.pinned (OpenSpec.ofChange digestVerifiesSpec)

/-- ITS FALSE NEIGHBOUR: 'it returns false'. Refute it at one input. -/
def digestVerifiesWrong : ChangeSpec := { name := "digestVerifies", fn := fun _ => fun
  | [d1, d2] => { results := [.lit (.bool false)], args := [d1, d2] }
  | _ => none }
def DigestVerifiesWrongFalsely : Prop := digestVerifiesRow.holds Tryd.pinned (OpenSpec.ofChange digestVerifiesWrong)

/-- 'crossdocklaw05.DigestTakes': WHATEVER THE INPUT: true; the input reads as it did. -/
def digestTakesSpec : ChangeSpec := { name := "digestTakes", fn := fun _ => fun
  | [d] => { results := [.lit (.bool true)], args := [d] }
  | _ => none }
def digestTakesRow : OpenClaim := { program := "ytbioclpobmgikaadoor", sum := "314d38aee13bfb761b411c96b894234113322d619b5442244edabdba73416168", func := "crossdock/crossdocklaw05.DigestTakes", spec := "digestTakes", inPlace := ["internal/abi.NoEscape", "internal/bytealg.IndexByteString"], recurses := true, named := ["crossdock/sha.first", "crossdock/sha.constants"], apart := false, laid := [("crossdock/sha.first", laid_crossdock_sha_first), ("crossdock/sha.constants", laid_crossdock_sha_constants)] }
def DigestTakesSaid : Prop := digestTakesRow.holds Tryd.pinned (OpenSpec.ofChange digestTakesSpec)

/-- ITS FALSE NEIGHBOUR: 'it returns false'. Refute it at one input. -/
def digestTakesWrong : ChangeSpec := { name := "digestTakes", fn := fun _ => fun
  | [d] => { results := [.lit (.bool false)], args := [d] }
  | _ => none }
def DigestTakesWrongFalsely : Prop := digestTakesRow.holds Tryd.pinned (OpenSpec.ofChange digestTakesWrong)

/-- 'crossdocklaw25.IdsOld': WHATEVER THE INPUT: true; the input reads as it did. -/
def idsOldSpec : ChangeSpec := { name := "idsOld", fn := fun _ => fun
  | [d1, d2, d3] => { results := [.lit (.bool true)], args := [d1, d2, d3] }
  | _ => none }
def idsOldRow : OpenClaim := { program := "ytbioclpobmgikaadoor", sum := "314d38aee13bfb761b411c96b894234113322d619b5442244edabdba73416168", func := "crossdock/crossdocklaw25.IdsOld", spec := "idsOld", inPlace := ["internal/abi.NoEscape", "internal/bytealg.MakeNoZero", "internal/bytealg.IndexByteString"], recurses := true, named := ["crossdock/sha.first", "crossdock/sha.constants"], apart := false, laid := [("crossdock/sha.first", laid_crossdock_sha_first), ("crossdock/sha.constants", laid_crossdock_sha_constants)] }
def IdsOldSaid : Prop := idsOldRow.holds Tryd.pinned (OpenSpec.ofChange idsOldSpec)

/-- ITS FALSE NEIGHBOUR: 'it returns false'. Refute it at one input. -/
def idsOldWrong : ChangeSpec := { name := "idsOld", fn := fun _ => fun
  | [d1, d2, d3] => { results := [.lit (.bool false)], args := [d1, d2, d3] }
  | _ => none }
def IdsOldWrongFalsely : Prop := idsOldRow.holds Tryd.pinned (OpenSpec.ofChange idsOldWrong)

/-- 'crossdocklaw25.IdsChains': WHATEVER THE INPUT: true; the input reads as it did. -/
def idsChainsSpec : ChangeSpec := { name := "idsChains", fn := fun _ => fun
  | [d] => { results := [.lit (.bool true)], args := [d] }
  | _ => none }
def idsChainsRow : OpenClaim := { program := "ytbioclpobmgikaadoor", sum := "314d38aee13bfb761b411c96b894234113322d619b5442244edabdba73416168", func := "crossdock/crossdocklaw25.IdsChains", spec := "idsChains", inPlace := ["internal/abi.NoEscape", "internal/bytealg.MakeNoZero", "internal/bytealg.IndexByteString"], recurses := true, named := ["crossdock/sha.first", "crossdock/sha.constants"], apart := false, laid := [("crossdock/sha.first", laid_crossdock_sha_first), ("crossdock/sha.constants", laid_crossdock_sha_constants)] }
def IdsChainsSaid : Prop := idsChainsRow.holds Tryd.pinned (OpenSpec.ofChange idsChainsSpec)

/-- ITS FALSE NEIGHBOUR: 'it returns false'. Refute it at one input. -/
def idsChainsWrong : ChangeSpec := { name := "idsChains", fn := fun _ => fun
  | [d] => { results := [.lit (.bool false)], args := [d] }
  | _ => none }
def IdsChainsWrongFalsely : Prop := idsChainsRow.holds Tryd.pinned (OpenSpec.ofChange idsChainsWrong)

/-- 'crossdocklaw25.IdsGrow': WHATEVER THE INPUT: true; the input reads as it did. -/
def idsGrowSpec : ChangeSpec := { name := "idsGrow", fn := fun _ => fun
  | [d1, d2] => { results := [.lit (.bool true)], args := [d1, d2] }
  | _ => none }
def idsGrowRow : OpenClaim := { program := "ytbioclpobmgikaadoor", sum := "314d38aee13bfb761b411c96b894234113322d619b5442244edabdba73416168", func := "crossdock/crossdocklaw25.IdsGrow", spec := "idsGrow", inPlace := ["internal/abi.NoEscape", "internal/bytealg.MakeNoZero", "internal/bytealg.IndexByteString"], recurses := true, named := ["crossdock/sha.first", "crossdock/sha.constants"], apart := false, laid := [("crossdock/sha.first", laid_crossdock_sha_first), ("crossdock/sha.constants", laid_crossdock_sha_constants)] }
def IdsGrowSaid : Prop := idsGrowRow.holds Tryd.pinned (OpenSpec.ofChange idsGrowSpec)

/-- ITS FALSE NEIGHBOUR: 'it returns false'. Refute it at one input. -/
def idsGrowWrong : ChangeSpec := { name := "idsGrow", fn := fun _ => fun
  | [d1, d2] => { results := [.lit (.bool false)], args := [d1, d2] }
  | _ => none }
def IdsGrowWrongFalsely : Prop := idsGrowRow.holds Tryd.pinned (OpenSpec.ofChange idsGrowWrong)

/-- 'crossdocklaw25.IdsLines': WHATEVER THE INPUT: true; the input reads as it did. -/
def idsLinesSpec : ChangeSpec := { name := "idsLines", fn := fun _ => fun
  | [d1, d2] => { results := [.lit (.bool true)], args := [d1, d2] }
  | _ => none }
def idsLinesRow : OpenClaim := { program := "ytbioclpobmgikaadoor", sum := "314d38aee13bfb761b411c96b894234113322d619b5442244edabdba73416168", func := "crossdock/crossdocklaw25.IdsLines", spec := "idsLines", inPlace := ["internal/abi.NoEscape", "internal/bytealg.MakeNoZero", "internal/bytealg.IndexByteString"], recurses := true, named := ["crossdock/sha.first", "crossdock/sha.constants"], apart := false, laid := [("crossdock/sha.first", laid_crossdock_sha_first), ("crossdock/sha.constants", laid_crossdock_sha_constants)] }
def IdsLinesSaid : Prop := idsLinesRow.holds Tryd.pinned (OpenSpec.ofChange idsLinesSpec)

/-- ITS FALSE NEIGHBOUR: 'it returns false'. Refute it at one input. -/
def idsLinesWrong : ChangeSpec := { name := "idsLines", fn := fun _ => fun
  | [d1, d2] => { results := [.lit (.bool false)], args := [d1, d2] }
  | _ => none }
def IdsLinesWrongFalsely : Prop := idsLinesRow.holds Tryd.pinned (OpenSpec.ofChange idsLinesWrong)

/-- 'crossdocklaw22.StoreFull': WHATEVER THE INPUT: true; the input reads as it did. -/
def storeFullSpec : ChangeSpec := { name := "storeFull", fn := fun _ => fun
  | [d] => { results := [.lit (.bool true)], args := [d] }
  | _ => none }
def storeFullRow : OpenClaim := { program := "ytbioclpobmgikaadoor", sum := "314d38aee13bfb761b411c96b894234113322d619b5442244edabdba73416168", func := "crossdock/crossdocklaw22.StoreFull", spec := "storeFull", inPlace := ["internal/abi.NoEscape", "slices.overlaps[crossdock/store.Blob]"], unfollowed := true, recurses := true, named := ["crossdock/sha.first", "crossdock/sha.constants"], apart := false, laid := [("crossdock/sha.first", laid_crossdock_sha_first), ("crossdock/sha.constants", laid_crossdock_sha_constants)] }
def StoreFullSaid : Prop := storeFullRow.holds Tryd.pinned (OpenSpec.ofChange storeFullSpec)

/-- ITS FALSE NEIGHBOUR: 'it returns false'. Refute it at one input. -/
def storeFullWrong : ChangeSpec := { name := "storeFull", fn := fun _ => fun
  | [d] => { results := [.lit (.bool false)], args := [d] }
  | _ => none }
def StoreFullWrongFalsely : Prop := storeFullRow.holds Tryd.pinned (OpenSpec.ofChange storeFullWrong)

/-- 'crossdocklaw22.StoreChecks': WHATEVER THE INPUT: true; the input reads as it did. -/
def storeChecksSpec : ChangeSpec := { name := "storeChecks", fn := fun _ => fun
  | [d1, d2, d3] => { results := [.lit (.bool true)], args := [d1, d2, d3] }
  | _ => none }
def storeChecksRow : OpenClaim := { program := "ytbioclpobmgikaadoor", sum := "314d38aee13bfb761b411c96b894234113322d619b5442244edabdba73416168", func := "crossdock/crossdocklaw22.StoreChecks", spec := "storeChecks", inPlace := ["internal/abi.NoEscape", "slices.overlaps[crossdock/store.Blob]", "internal/bytealg.IndexByteString"], unfollowed := true, recurses := true, named := ["crossdock/sha.first", "crossdock/sha.constants"], apart := false, laid := [("crossdock/sha.first", laid_crossdock_sha_first), ("crossdock/sha.constants", laid_crossdock_sha_constants)] }
def StoreChecksSaid : Prop := storeChecksRow.holds Tryd.pinned (OpenSpec.ofChange storeChecksSpec)

/-- ITS FALSE NEIGHBOUR: 'it returns false'. Refute it at one input. -/
def storeChecksWrong : ChangeSpec := { name := "storeChecks", fn := fun _ => fun
  | [d1, d2, d3] => { results := [.lit (.bool false)], args := [d1, d2, d3] }
  | _ => none }
def StoreChecksWrongFalsely : Prop := storeChecksRow.holds Tryd.pinned (OpenSpec.ofChange storeChecksWrong)

/-- 'crossdocklaw22.StoreViews': WHATEVER THE INPUT: true; the input reads as it did. -/
def storeViewsSpec : ChangeSpec := { name := "storeViews", fn := fun _ => fun
  | [d1, d2] => { results := [.lit (.bool true)], args := [d1, d2] }
  | _ => none }
def storeViewsRow : OpenClaim := { program := "ytbioclpobmgikaadoor", sum := "314d38aee13bfb761b411c96b894234113322d619b5442244edabdba73416168", func := "crossdock/crossdocklaw22.StoreViews", spec := "storeViews", inPlace := ["internal/abi.NoEscape", "slices.overlaps[crossdock/store.Blob]", "internal/bytealg.IndexByteString"], unfollowed := true, recurses := true, named := ["crossdock/sha.first", "crossdock/sha.constants"], apart := false, laid := [("crossdock/sha.first", laid_crossdock_sha_first), ("crossdock/sha.constants", laid_crossdock_sha_constants)] }
def StoreViewsSaid : Prop := storeViewsRow.holds Tryd.pinned (OpenSpec.ofChange storeViewsSpec)

/-- ITS FALSE NEIGHBOUR: 'it returns false'. Refute it at one input. -/
def storeViewsWrong : ChangeSpec := { name := "storeViews", fn := fun _ => fun
  | [d1, d2] => { results := [.lit (.bool false)], args := [d1, d2] }
  | _ => none }
def StoreViewsWrongFalsely : Prop := storeViewsRow.holds Tryd.pinned (OpenSpec.ofChange storeViewsWrong)

/-- 'crossdocklaw22.StoreBack': WHATEVER THE INPUT: true; the input reads as it did. -/
def storeBackSpec : ChangeSpec := { name := "storeBack", fn := fun _ => fun
  | [d] => { results := [.lit (.bool true)], args := [d] }
  | _ => none }
def storeBackRow : OpenClaim := { program := "ytbioclpobmgikaadoor", sum := "314d38aee13bfb761b411c96b894234113322d619b5442244edabdba73416168", func := "crossdock/crossdocklaw22.StoreBack", spec := "storeBack", inPlace := ["internal/abi.NoEscape", "slices.overlaps[crossdock/store.Blob]", "internal/bytealg.IndexByteString"], unfollowed := true, recurses := true, named := ["crossdock/sha.first", "crossdock/sha.constants"], apart := false, laid := [("crossdock/sha.first", laid_crossdock_sha_first), ("crossdock/sha.constants", laid_crossdock_sha_constants)] }
def StoreBackSaid : Prop := storeBackRow.holds Tryd.pinned (OpenSpec.ofChange storeBackSpec)

/-- ITS FALSE NEIGHBOUR: 'it returns false'. Refute it at one input. -/
def storeBackWrong : ChangeSpec := { name := "storeBack", fn := fun _ => fun
  | [d] => { results := [.lit (.bool false)], args := [d] }
  | _ => none }
def StoreBackWrongFalsely : Prop := storeBackRow.holds Tryd.pinned (OpenSpec.ofChange storeBackWrong)

/- THE SECOND FORM. 'bulk': how many values and letters a reading holds, each counted each time it is reached (what is shared counts as often as it is met; a slice's spare places count too). A statement '..UptoSaid' is the law's where the arguments, and the package variables that the reading takes, are together of bulk at most 1048576: NARROWER than '..Said'. Prove '..Said' where nothing that the law and all that it calls make is longer than what came in: it says more and counts as full. Else prove '..UptoSaid'. A law counts once. -/
mutual
def uptoBulk {H : Type} : DataW H → Nat
  | .lit (.string bytes) => bytes.length + 1
  | .lit _ => 1
  | .nil => 1
  | .ptr d => uptoBulk d + 1
  | .slice elems spare => uptoBulkAll elems + uptoBulkAll spare + 1
  | .agg parts => uptoBulkAll parts + 1
  | .iface _ d => uptoBulk d + 1
  | .map entries => uptoBulkEntries entries + 1
  | .held _ => 1
def uptoBulkAll {H : Type} : List (DataW H) → Nat
  | [] => 0
  | d :: r => uptoBulk d + uptoBulkAll r
def uptoBulkEntries {H : Type} : List (Lit × DataW H) → Nat
  | [] => 0
  | x :: r => uptoBulkEntry x + uptoBulkEntries r
def uptoBulkEntry {H : Type} : Lit × DataW H → Nat
  | (.string bytes, d) => bytes.length + uptoBulk d + 1
  | (_, d) => uptoBulk d + 1
 end
def uptoSmall : (H : Type) → List (DataW H) → Bool := fun _ ds => decide (uptoBulkAll ds ≤ 1048576)
def OpenSpec.upto (s : _root_.Go.ChangeSpec) : _root_.Go.OpenSpec := { _root_.Go.OpenSpec.ofChange s with cond := some uptoSmall }

/-- 'crossdocklaw03.ShaTells', WHERE WHAT IT READS IS OF BULK AT MOST 1048576: true; the input reads as it did. -/
def shaTellsUptoRow : OpenClaim := { program := "ytbioclpobmgikaadoor", sum := "314d38aee13bfb761b411c96b894234113322d619b5442244edabdba73416168", func := "crossdock/crossdocklaw03.ShaTells", spec := "shaTells", recurses := true, named := ["crossdock/sha.first", "crossdock/sha.constants"], apart := false, laid := [("crossdock/sha.first", laid_crossdock_sha_first), ("crossdock/sha.constants", laid_crossdock_sha_constants)], narrowed := true }
def ShaTellsUptoSaid : Prop := shaTellsUptoRow.holds Tryd.pinned (OpenSpec.upto shaTellsSpec)

/-- 'crossdocklaw03.ShaEdges', WHERE WHAT IT READS IS OF BULK AT MOST 1048576: true; the input reads as it did. -/
def shaEdgesUptoRow : OpenClaim := { program := "ytbioclpobmgikaadoor", sum := "314d38aee13bfb761b411c96b894234113322d619b5442244edabdba73416168", func := "crossdock/crossdocklaw03.ShaEdges", spec := "shaEdges", recurses := true, named := ["crossdock/sha.first", "crossdock/sha.constants"], apart := false, laid := [("crossdock/sha.first", laid_crossdock_sha_first), ("crossdock/sha.constants", laid_crossdock_sha_constants)], narrowed := true }
def ShaEdgesUptoSaid : Prop := shaEdgesUptoRow.holds Tryd.pinned (OpenSpec.upto shaEdgesSpec)

/-- 'crossdocklaw03.ShaParts', WHERE WHAT IT READS IS OF BULK AT MOST 1048576: true; the input reads as it did. -/
def shaPartsUptoRow : OpenClaim := { program := "ytbioclpobmgikaadoor", sum := "314d38aee13bfb761b411c96b894234113322d619b5442244edabdba73416168", func := "crossdock/crossdocklaw03.ShaParts", spec := "shaParts", recurses := true, named := ["crossdock/sha.first", "crossdock/sha.constants"], apart := false, laid := [("crossdock/sha.first", laid_crossdock_sha_first), ("crossdock/sha.constants", laid_crossdock_sha_constants)], narrowed := true }
def ShaPartsUptoSaid : Prop := shaPartsUptoRow.holds Tryd.pinned (OpenSpec.upto shaPartsSpec)

/-- 'crossdocklaw03.ShaNone', WHERE WHAT IT READS IS OF BULK AT MOST 1048576: true; the input reads as it did. -/
def shaNoneUptoRow : OpenClaim := { program := "ytbioclpobmgikaadoor", sum := "314d38aee13bfb761b411c96b894234113322d619b5442244edabdba73416168", func := "crossdock/crossdocklaw03.ShaNone", spec := "shaNone", recurses := true, named := ["crossdock/sha.first", "crossdock/sha.constants"], apart := false, laid := [("crossdock/sha.first", laid_crossdock_sha_first), ("crossdock/sha.constants", laid_crossdock_sha_constants)], narrowed := true }
def ShaNoneUptoSaid : Prop := shaNoneUptoRow.holds Tryd.pinned (OpenSpec.upto shaNoneSpec)

/-- 'crossdocklaw05.DigestTells', WHERE WHAT IT READS IS OF BULK AT MOST 1048576: true; the input reads as it did. -/
def digestTellsUptoRow : OpenClaim := { program := "ytbioclpobmgikaadoor", sum := "314d38aee13bfb761b411c96b894234113322d619b5442244edabdba73416168", func := "crossdock/crossdocklaw05.DigestTells", spec := "digestTells", inPlace := ["internal/abi.NoEscape"], recurses := true, named := ["crossdock/sha.first", "crossdock/sha.constants"], apart := false, laid := [("crossdock/sha.first", laid_crossdock_sha_first), ("crossdock/sha.constants", laid_crossdock_sha_constants)], narrowed := true }
def DigestTellsUptoSaid : Prop := digestTellsUptoRow.holds Tryd.pinned (OpenSpec.upto digestTellsSpec)

/-- 'crossdocklaw05.DigestChains', WHERE WHAT IT READS IS OF BULK AT MOST 1048576: true; the input reads as it did. -/
def digestChainsUptoRow : OpenClaim := { program := "ytbioclpobmgikaadoor", sum := "314d38aee13bfb761b411c96b894234113322d619b5442244edabdba73416168", func := "crossdock/crossdocklaw05.DigestChains", spec := "digestChains", inPlace := ["internal/abi.NoEscape"], recurses := true, named := ["crossdock/sha.first", "crossdock/sha.constants"], apart := false, laid := [("crossdock/sha.first", laid_crossdock_sha_first), ("crossdock/sha.constants", laid_crossdock_sha_constants)], narrowed := true }
def DigestChainsUptoSaid : Prop := digestChainsUptoRow.holds Tryd.pinned (OpenSpec.upto digestChainsSpec)

/-- 'crossdocklaw05.DigestVerifies', WHERE WHAT IT READS IS OF BULK AT MOST 1048576: true; the input reads as it did. -/
def digestVerifiesUptoRow : OpenClaim := { program := "ytbioclpobmgikaadoor", sum := "314d38aee13bfb761b411c96b894234113322d619b5442244edabdba73416168", func := "crossdock/crossdocklaw05.DigestVerifies", spec := "digestVerifies", inPlace := ["internal/abi.NoEscape", "internal/bytealg.IndexByteString"], recurses := true, named := ["crossdock/sha.first", "crossdock/sha.constants"], apart := false, laid := [("crossdock/sha.first", laid_crossdock_sha_first), ("crossdock/sha.constants", laid_crossdock_sha_constants)], narrowed := true }
def DigestVerifiesUptoSaid : Prop := digestVerifiesUptoRow.holds Tryd.pinned (OpenSpec.upto digestVerifiesSpec)

/-- 'crossdocklaw05.DigestTakes', WHERE WHAT IT READS IS OF BULK AT MOST 1048576: true; the input reads as it did. -/
def digestTakesUptoRow : OpenClaim := { program := "ytbioclpobmgikaadoor", sum := "314d38aee13bfb761b411c96b894234113322d619b5442244edabdba73416168", func := "crossdock/crossdocklaw05.DigestTakes", spec := "digestTakes", inPlace := ["internal/abi.NoEscape", "internal/bytealg.IndexByteString"], recurses := true, named := ["crossdock/sha.first", "crossdock/sha.constants"], apart := false, laid := [("crossdock/sha.first", laid_crossdock_sha_first), ("crossdock/sha.constants", laid_crossdock_sha_constants)], narrowed := true }
def DigestTakesUptoSaid : Prop := digestTakesUptoRow.holds Tryd.pinned (OpenSpec.upto digestTakesSpec)

/-- 'crossdocklaw25.IdsOld', WHERE WHAT IT READS IS OF BULK AT MOST 1048576: true; the input reads as it did. -/
def idsOldUptoRow : OpenClaim := { program := "ytbioclpobmgikaadoor", sum := "314d38aee13bfb761b411c96b894234113322d619b5442244edabdba73416168", func := "crossdock/crossdocklaw25.IdsOld", spec := "idsOld", inPlace := ["internal/abi.NoEscape", "internal/bytealg.MakeNoZero", "internal/bytealg.IndexByteString"], recurses := true, named := ["crossdock/sha.first", "crossdock/sha.constants"], apart := false, laid := [("crossdock/sha.first", laid_crossdock_sha_first), ("crossdock/sha.constants", laid_crossdock_sha_constants)], narrowed := true }
def IdsOldUptoSaid : Prop := idsOldUptoRow.holds Tryd.pinned (OpenSpec.upto idsOldSpec)

/-- 'crossdocklaw25.IdsChains', WHERE WHAT IT READS IS OF BULK AT MOST 1048576: true; the input reads as it did. -/
def idsChainsUptoRow : OpenClaim := { program := "ytbioclpobmgikaadoor", sum := "314d38aee13bfb761b411c96b894234113322d619b5442244edabdba73416168", func := "crossdock/crossdocklaw25.IdsChains", spec := "idsChains", inPlace := ["internal/abi.NoEscape", "internal/bytealg.MakeNoZero", "internal/bytealg.IndexByteString"], recurses := true, named := ["crossdock/sha.first", "crossdock/sha.constants"], apart := false, laid := [("crossdock/sha.first", laid_crossdock_sha_first), ("crossdock/sha.constants", laid_crossdock_sha_constants)], narrowed := true }
def IdsChainsUptoSaid : Prop := idsChainsUptoRow.holds Tryd.pinned (OpenSpec.upto idsChainsSpec)

/-- 'crossdocklaw25.IdsGrow', WHERE WHAT IT READS IS OF BULK AT MOST 1048576: true; the input reads as it did. -/
def idsGrowUptoRow : OpenClaim := { program := "ytbioclpobmgikaadoor", sum := "314d38aee13bfb761b411c96b894234113322d619b5442244edabdba73416168", func := "crossdock/crossdocklaw25.IdsGrow", spec := "idsGrow", inPlace := ["internal/abi.NoEscape", "internal/bytealg.MakeNoZero", "internal/bytealg.IndexByteString"], recurses := true, named := ["crossdock/sha.first", "crossdock/sha.constants"], apart := false, laid := [("crossdock/sha.first", laid_crossdock_sha_first), ("crossdock/sha.constants", laid_crossdock_sha_constants)], narrowed := true }
def IdsGrowUptoSaid : Prop := idsGrowUptoRow.holds Tryd.pinned (OpenSpec.upto idsGrowSpec)

/-- 'crossdocklaw25.IdsLines', WHERE WHAT IT READS IS OF BULK AT MOST 1048576: true; the input reads as it did. -/
def idsLinesUptoRow : OpenClaim := { program := "ytbioclpobmgikaadoor", sum := "314d38aee13bfb761b411c96b894234113322d619b5442244edabdba73416168", func := "crossdock/crossdocklaw25.IdsLines", spec := "idsLines", inPlace := ["internal/abi.NoEscape", "internal/bytealg.MakeNoZero", "internal/bytealg.IndexByteString"], recurses := true, named := ["crossdock/sha.first", "crossdock/sha.constants"], apart := false, laid := [("crossdock/sha.first", laid_crossdock_sha_first), ("crossdock/sha.constants", laid_crossdock_sha_constants)], narrowed := true }
def IdsLinesUptoSaid : Prop := idsLinesUptoRow.holds Tryd.pinned (OpenSpec.upto idsLinesSpec)

/-- 'crossdocklaw22.StoreFull', WHERE WHAT IT READS IS OF BULK AT MOST 1048576: true; the input reads as it did. -/
def storeFullUptoRow : OpenClaim := { program := "ytbioclpobmgikaadoor", sum := "314d38aee13bfb761b411c96b894234113322d619b5442244edabdba73416168", func := "crossdock/crossdocklaw22.StoreFull", spec := "storeFull", inPlace := ["internal/abi.NoEscape", "slices.overlaps[crossdock/store.Blob]"], unfollowed := true, recurses := true, named := ["crossdock/sha.first", "crossdock/sha.constants"], apart := false, laid := [("crossdock/sha.first", laid_crossdock_sha_first), ("crossdock/sha.constants", laid_crossdock_sha_constants)], narrowed := true }
def StoreFullUptoSaid : Prop := storeFullUptoRow.holds Tryd.pinned (OpenSpec.upto storeFullSpec)

/-- 'crossdocklaw22.StoreChecks', WHERE WHAT IT READS IS OF BULK AT MOST 1048576: true; the input reads as it did. -/
def storeChecksUptoRow : OpenClaim := { program := "ytbioclpobmgikaadoor", sum := "314d38aee13bfb761b411c96b894234113322d619b5442244edabdba73416168", func := "crossdock/crossdocklaw22.StoreChecks", spec := "storeChecks", inPlace := ["internal/abi.NoEscape", "slices.overlaps[crossdock/store.Blob]", "internal/bytealg.IndexByteString"], unfollowed := true, recurses := true, named := ["crossdock/sha.first", "crossdock/sha.constants"], apart := false, laid := [("crossdock/sha.first", laid_crossdock_sha_first), ("crossdock/sha.constants", laid_crossdock_sha_constants)], narrowed := true }
def StoreChecksUptoSaid : Prop := storeChecksUptoRow.holds Tryd.pinned (OpenSpec.upto storeChecksSpec)

/-- 'crossdocklaw22.StoreViews', WHERE WHAT IT READS IS OF BULK AT MOST 1048576: true; the input reads as it did. -/
def storeViewsUptoRow : OpenClaim := { program := "ytbioclpobmgikaadoor", sum := "314d38aee13bfb761b411c96b894234113322d619b5442244edabdba73416168", func := "crossdock/crossdocklaw22.StoreViews", spec := "storeViews", inPlace := ["internal/abi.NoEscape", "slices.overlaps[crossdock/store.Blob]", "internal/bytealg.IndexByteString"], unfollowed := true, recurses := true, named := ["crossdock/sha.first", "crossdock/sha.constants"], apart := false, laid := [("crossdock/sha.first", laid_crossdock_sha_first), ("crossdock/sha.constants", laid_crossdock_sha_constants)], narrowed := true }
def StoreViewsUptoSaid : Prop := storeViewsUptoRow.holds Tryd.pinned (OpenSpec.upto storeViewsSpec)

/-- 'crossdocklaw22.StoreBack', WHERE WHAT IT READS IS OF BULK AT MOST 1048576: true; the input reads as it did. -/
def storeBackUptoRow : OpenClaim := { program := "ytbioclpobmgikaadoor", sum := "314d38aee13bfb761b411c96b894234113322d619b5442244edabdba73416168", func := "crossdock/crossdocklaw22.StoreBack", spec := "storeBack", inPlace := ["internal/abi.NoEscape", "slices.overlaps[crossdock/store.Blob]", "internal/bytealg.IndexByteString"], unfollowed := true, recurses := true, named := ["crossdock/sha.first", "crossdock/sha.constants"], apart := false, laid := [("crossdock/sha.first", laid_crossdock_sha_first), ("crossdock/sha.constants", laid_crossdock_sha_constants)], narrowed := true }
def StoreBackUptoSaid : Prop := storeBackUptoRow.holds Tryd.pinned (OpenSpec.upto storeBackSpec)

end Rows
end Go.Proofs.YtbioclpobmgikaaDoor
